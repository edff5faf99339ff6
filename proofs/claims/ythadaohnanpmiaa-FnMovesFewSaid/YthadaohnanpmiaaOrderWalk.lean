/-
  OrderMoves in the program: the walk.
-/
import Derived.Test.YthadaohnanpmiaaOrder
namespace Go.Proofs.Ythadaohnanpmiaa
open Go.RowKit

def ordOk (xss : List (List Int)) (spare : Int) : Bool := onceAll xss && decide (0 ≤ spare ∧ spare ≤ 299) && !namesIn xss spare
def ordRes' (xss : List (List Int)) (spare : Int) : List (List Int) := if ordOk xss spare = true then (ordRes spare (pairs xss)).map enc else []

theorem isMove_lens {rows : List Hd} (h : ∀ r ∈ rows, isMove r.xs = true) : ∀ r ∈ rows, r.xs.length ≤ 1099511627776 := by
  intro r hr
  obtain ⟨i, j, hij, _, _⟩ := isMove_cases (h r hr)
  rw [hij]
  show 2 ≤ 1099511627776
  omega

theorem implOrder_no (a : Option Addr) (len cap : Nat) (rows : List Hd) (spare : Int) (w : World) (hin : MatRd w a len rows) (hs : len ≤ 1099511627776) (hno : ordOk (rows.map Hd.xs) spare = false) :
    Calls Try.prog 41 #[.slice a len cap, .int .i64 spare] w fun e w' => RetMatOk w [] false e w' := by
  have fin : ∀ w', Below w.heap.size w w' → RetMatOk w [] false (.returned (.tuple #[.slice none 0 0, .bool false])) w' := fun w' hb =>
    ⟨none, 0, 0, [], rfl, ⟨World.ownsRow_nil _ _ _ _, by rintro k ⟨⟩, by simp, by simp, by simp⟩, rfl, hb⟩
  by_cases hmv : movesOk (rows.map Hd.xs) = true
  · have HM := Lib.hid (movesOk_rows hmv)
    have hrl := isMove_lens HM.out
    by_cases hon : onceOk (rows.map Hd.xs) = true
    · by_cases hsp : 0 ≤ spare ∧ spare ≤ 299
      · have hnm : namesIn (rows.map Hd.xs) spare = true := by
          rw [ordOk, onceAll, hmv, hon, decide_eq_true hsp] at hno
          simpa using hno
        have H1 := Lib.hid hmv
        have H2 := Lib.hid hon
        have H4 := Lib.hid hnm
        clear hmv hon hnm hno
        go_enter Try.func41, Try.ntmps41
        go_wp2_with fail
        refine (areMoves_any a len cap rows w hin hs).mono ?_
        rw [H1.out]
        rintro e w1 ⟨rfl, hb1⟩
        go_wp2_with fail
        refine (atOnce_any a len cap rows w1 (hin.later hb1) hs HM.out).mono ?_
        rw [H2.out]
        rintro e w2 ⟨rfl, hb2⟩
        have hb02 := hb1.trans (hb2.mono hb1.size)
        go_wp2_with fail
        refine (within_yes spare 0 299 w2 hsp).mono ?_
        rintro e w3 ⟨rfl, rfl⟩
        go_wp2_with fail
        refine (namesReg_any a len cap rows spare w2 (hin.later hb02) hs hrl).mono ?_
        rw [H4.out]
        rintro e w4 ⟨rfl, hb4⟩
        have hb04 := hb02.trans (hb4.mono hb02.size)
        go_wp2
        go_ret2
        exact fin _ hb04
      · have H1 := Lib.hid hmv
        have H2 := Lib.hid hon
        clear hmv hon hno
        go_enter Try.func41, Try.ntmps41
        go_wp2_with fail
        refine (areMoves_any a len cap rows w hin hs).mono ?_
        rw [H1.out]
        rintro e w1 ⟨rfl, hb1⟩
        go_wp2_with fail
        refine (atOnce_any a len cap rows w1 (hin.later hb1) hs HM.out).mono ?_
        rw [H2.out]
        rintro e w2 ⟨rfl, hb2⟩
        have hb02 := hb1.trans (hb2.mono hb1.size)
        go_wp2_with fail
        refine (within_no spare 0 299 w2 hsp).mono ?_
        rintro e w3 ⟨rfl, rfl⟩
        go_wp2
        go_ret2
        exact fin _ hb02
    · have hon' : onceOk (rows.map Hd.xs) = false := by simpa using hon
      have H1 := Lib.hid hmv
      have H2 := Lib.hid hon'
      clear hmv hon hon' hno
      go_enter Try.func41, Try.ntmps41
      go_wp2_with fail
      refine (areMoves_any a len cap rows w hin hs).mono ?_
      rw [H1.out]
      rintro e w1 ⟨rfl, hb1⟩
      go_wp2_with fail
      refine (atOnce_any a len cap rows w1 (hin.later hb1) hs HM.out).mono ?_
      rw [H2.out]
      rintro e w2 ⟨rfl, hb2⟩
      have hb02 := hb1.trans (hb2.mono hb1.size)
      go_wp2
      go_ret2
      exact fin _ hb02
  · have hmv' : movesOk (rows.map Hd.xs) = false := by simpa using hmv
    have H1 := Lib.hid hmv'
    clear hmv hmv' hno
    go_enter Try.func41, Try.ntmps41
    go_wp2_with fail
    refine (areMoves_any a len cap rows w hin hs).mono ?_
    rw [H1.out]
    rintro e w1 ⟨rfl, hb1⟩
    go_wp2
    go_ret2
    exact fin _ hb1

theorem pairs_two (i j : Nat) : ([(i : Int), (j : Int)].getD 0 0, [(i : Int), (j : Int)].getD 1 0) = ((i : Int), (j : Int)) := rfl

theorem mine_below {w w' : World} {lo : Nat} {a : Option Addr} {n cap : Nat} {rows : List Hd} (h : MatMine w lo a n cap rows) (hb : Below w.heap.size w w') : MatMine w' lo a n cap rows :=
  h.far (S := fun k => w.heap.size ≤ k) (turned_of_below hb (fun _ hk _ => hk)) (fun _ hk => .inr hk)
theorem blocks_snoc {rows : List Hd} {r : Hd} {N : Nat} (h : (blocks rows).Nodup) (h1 : ∀ x ∈ rows, ∀ k, x.val.ownBlock = some k → k < N) (h2 : ∀ k, r.val.ownBlock = some k → N ≤ k) : (blocks (rows ++ [r])).Nodup := by
  rw [blocks_append, List.nodup_append]
  refine ⟨h, ?_, ?_⟩
  · unfold blocks
    cases hb : r.val.ownBlock <;> simp [hb]
  · intro x hx y hy
    obtain ⟨z, hz, hzx⟩ := List.mem_filterMap.1 hx
    obtain ⟨z', hz', hzy⟩ := List.mem_filterMap.1 hy
    simp at hz'
    subst hz'
    have h3 := h1 z hz x hzx
    have h4 := h2 y hzy
    omega
theorem left_push {w wr w5 w6 : World} {bl nl cl : Nat} {al : Option Addr} {left : List Hd} {a5 a6 : Option Addr} {c5 c6 : Nat} {xs : List Int} {o : Obj}
    (hbx : Box wr bl (.slice al nl cl)) (hm : MatMine wr (bl + 1) al nl cl left) (hnd : (blocks left).Nodup) (hbr : Below w.heap.size w wr) (hbs : w.heap.size ≤ bl)
    (hown5 : w5.ownsRow wr.heap.size 3 1 (.slice a5 xs.length c5) xs.length (xs.map (Value.int .i64))) (hb5 : Below wr.heap.size wr w5)
    (hown6 : w6.ownsRow (bl + 1) 22 1 (.slice a6 (nl + 1) c6) (nl + 1) (left.map Hd.val ++ [.slice a5 xs.length c5]))
    (hg6 : (w5.alloc o).grownBy w6 (Value.slice al nl cl).ownBlock) :
    Box w6 bl (.slice al nl cl) ∧ Box (w6.setCell ⟨bl, 0, none⟩ (.slice a6 (nl + 1) c6)) bl (.slice a6 (nl + 1) c6) ∧ MatMine (w6.setCell ⟨bl, 0, none⟩ (.slice a6 (nl + 1) c6)) (bl + 1) a6 (nl + 1) c6 (left ++ [⟨a5, c5, xs⟩]) ∧
      (blocks (left ++ [⟨a5, c5, xs⟩])).Nodup ∧ Below w.heap.size w (w6.setCell ⟨bl, 0, none⟩ (.slice a6 (nl + 1) c6)) := by
  have hlt := hbx.lt
  have hba := (hb5.alloc hb5.size o)
  have hbxa := hbx.below hba
  have hma := mine_below hm hba
  have hra : (w5.alloc o).ownsRow (bl + 1) 3 1 (Hd.val ⟨a5, c5, xs⟩) xs.length (xs.map (Value.int .i64)) := own_lower (hown5.alloc o) (fun k hk => by have := (hown5.lt k hk).1; omega)
  have hbx6 : Box w6 bl (.slice al nl cl) := hbxa.kept hg6 (hbxa.ne hma.own (by decide))
  have hm6 := mine_push (r := ⟨a5, c5, xs⟩) hma hra hown6 hg6
  have hb6 : Below w.heap.size w w6 := (hbr.trans (hba.mono hbr.size)).grown hg6 (Nat.le_trans hbr.size hba.size) (fun k hk => by have := (hma.own.lt k hk).1; omega)
  exact ⟨hbx6, (hbx6.set _).1, hm6.boxed hbx6 _, blocks_snoc (N := wr.heap.size) hnd (fun x hx k hk => ((hm.rows x hx).lt k hk).2) (fun k hk => (hown5.lt k hk).1),
    hb6.grown (hbx6.set _).2 (hb6.size) (fun k hk => by cases hk; exact hbs)⟩

set_option maxHeartbeats 4000000 in
theorem implOrder_yes (a : Option Addr) (len cap : Nat) (rows : List Hd) (spare : Int) (w : World) (hin : MatRd w a len rows) (hs : len ≤ 1099511627776) (hok : ordOk (rows.map Hd.xs) spare = true) :
    Calls Try.prog 41 #[.slice a len cap, .int .i64 spare] w fun e w' => RetMatOk w ((ordRes spare (pairs (rows.map Hd.xs))).map enc) true e w' := by
  have hmf : ∀ (fn : Fn) (first cap : Array Value) (w : World), (Instr.makeFunc fn first cap).run Try.prog w = .ok (.func fn first cap) w := fun _ _ _ _ => rfl
  have hok0 := hok
  rw [ordOk, onceAll, Bool.and_eq_true, Bool.and_eq_true, Bool.and_eq_true, decide_eq_true_eq, Bool.not_eq_true'] at hok
  obtain ⟨⟨⟨hmv, hon⟩, hsp⟩, hnm⟩ := hok
  have HM := Lib.hid (movesOk_rows hmv)
  have hrl := isMove_lens HM.out
  have hl3 : len ≤ 300 := by
    have h1 := hmv
    rw [movesOk, Bool.and_eq_true, decide_eq_true_eq, List.length_map, hin.length] at h1
    exact h1.1
  have H1 := Lib.hid hmv
  have H2 := Lib.hid hon
  have H4 := Lib.hid hnm
  have HL := Lib.hid hin.length
  obtain ⟨ps0, hps0⟩ : ∃ ps0, ps0 = pairs (rows.map Hd.xs) := ⟨_, rfl⟩
  rw [← hps0]
  have HPS := Lib.hid hps0
  clear hmv hon hnm hok0 hps0
  go_enter Try.func41, Try.ntmps41
  go_wp2_with fail
  refine (areMoves_any a len cap rows w hin hs).mono ?_
  rw [H1.out]
  rintro e w1 ⟨rfl, hb1⟩
  go_wp2_with fail
  refine (atOnce_any a len cap rows w1 (hin.later hb1) hs HM.out).mono ?_
  rw [H2.out]
  rintro e w2 ⟨rfl, hb2⟩
  have hb02 := hb1.trans (hb2.mono hb1.size)
  go_wp2_with fail
  refine (within_yes spare 0 299 w2 hsp).mono ?_
  rintro e w3 ⟨rfl, rfl⟩
  go_wp2_with fail
  refine (namesReg_any a len cap rows spare w2 (hin.later hb02) hs hrl).mono ?_
  rw [H4.out]
  rintro e w4 ⟨rfl, hb4⟩
  have hb04 := hb02.trans (hb4.mono hb02.size)
  have hbs4 := hb04.size
  clear hb1 hb2 hb02 hb4
  obtain ⟨hsp0, hsp1⟩ := hsp
  obtain ⟨bl, hbl⟩ : ∃ bl, bl = w4.heap.size := ⟨_, rfl⟩
  have hbx0 : Box (w4.alloc (.cells #[.slice none 0 0] 31)) bl (.slice none 0 0) := by rw [Box, hbl, heap_alloc_new]
  have hm0 : MatMine (w4.alloc (.cells #[.slice none 0 0] 31)) (bl + 1) none 0 0 [] := ⟨World.ownsRow_nil _ _ _ _, by simp⟩
  have hb00 : Below w.heap.size w (w4.alloc (.cells #[.slice none 0 0] 31)) := hb04.alloc hbs4 _
  have hbs : w.heap.size ≤ bl := by omega
  go_wp2_with fail
  rw [← hbl]
  clear hb04 hbl hbs4
  go_loopw [34] (fun i wr => ∃ (k nl cl : Nat) (al : Option Addr) (left : List Hd), k ≤ len ∧ i = .int .i64 k ∧ Box wr bl (.slice al nl cl) ∧ MatMine wr (bl + 1) al nl cl left ∧ (blocks left).Nodup ∧ nl ≤ k ∧ Hid (RowsAre left (pairs ((rows.take k).map Hd.xs))) ∧ Below w.heap.size w wr) (fun i _ => len - (intOf i).toNat)
  case atStart => exact ⟨0, 0, 0, none, [], Nat.zero_le _, rfl, hbx0, hm0, by simp [blocks], Nat.le_refl _, Lib.hid rfl, hb00⟩
  case round =>
    obtain ⟨k, nl, cl, al, left, hk, rfl, hbx, hm, hnd, hnl, hps, hbr⟩ := hrel
    clear hbx0 hm0 hb00
    by_cases hlt : k < len
    · obtain ⟨b, off, ai, ci, xs, rfl, hx, hc, hi⟩ := (hin.later hbr).place hlt
      obtain ⟨i, j, hij, hi9, hj9⟩ := isMove_cases (HM.out _ (List.mem_of_getElem? hx))
      simp only at hij
      subst hij
      obtain ⟨bm, om, rfl, hd0, hd1⟩ := two_cells hi
      have HT := Lib.hid (take_succ_of hx)
      clear hx
      by_cases hne : i = j
      · subst hne
        have hd : ((i : Int) != (i : Int)) = false := by simp
        go_wp2
        go_quiet (fail)
        go_wp2
        go_roundw
        case rel =>
          refine ⟨k + 1, nl, cl, al, left, by omega, by go_num, hbx, ⟨hm.own, hm.rows⟩, hnd, by omega, Lib.hid ?_, below_drewN hbr nq⟩
          rw [HT.out, List.map_append]
          show RowsAre left (pairs ((rows.take k).map Hd.xs ++ [[(i : Int), (i : Int)]]))
          rw [pairs_snoc, if_neg (by simp), List.append_nil]
          exact hps.out
        case measure => simp [intOf]; omega
      · have hd : ((i : Int) != (j : Int)) = true := by simp; omega
        go_wp2
        go_quiet (fail)
        go_wp2
        have hbxc := hbx.cell
        have hbxf := hbx.free
        have hcl : ∀ q, Calls Try.prog 52 #[.slice (some ⟨bm, om, none⟩) 2 ci] (wr.drewN q) fun e w' => ∃ a c, e = .returned (.slice a 2 c) ∧ w'.ownsRow wr.heap.size 3 1 (.slice a 2 c) 2 ([(i : Int), (j : Int)].map (Value.int .i64)) ∧ Below wr.heap.size wr w' :=
          fun q => (clone_any bm om 2 ci [(i : Int), (j : Int)] (wr.drewN q) ⟨hi.1, hi.2⟩ (by omega)).mono fun _ _ ⟨a, c, he, ho, hb⟩ => ⟨a, c, he, ho, ⟨hb.1, hb.2, hb.3, hb.4, hb.5⟩⟩
        have HC := Lib.hid hcl
        clear hcl
        go_region_law? (first
          | (refine step_app_row rfl (.tmp 45) (.tmp 48) rfl (bl + 1) _ nl _ rfl ((mine_below hm hb5).own.alloc _) _ _ _ rfl (rowAt_one _ _ _) rfl (by omega) (by have := hb5.size; have := hbx.lt; simp; omega) ?_; intro a6 c6 w6 hown6 hg6 hlies6; have HP6 := Lib.hid (left_push hbx hm hnd hbr hbs hown5 hb5 hown6 hg6); have hbxc6 := HP6.out.1.cell; have hbxf6 := HP6.out.1.free)
          | (go_simp; go_at_call 52; refine (HC.out _).mono ?_; rintro e w5 ⟨a5, c5, rfl, hown5, hb5⟩; have hbx5 := hbx.below hb5; have hbxc5 := hbx5.cell; have hbxc5a := (hbx5.below ((Below.refl _ _).alloc (Nat.le_refl _) (.cells #[.slice a5 2 c5] 22))).cell))
        go_wp2
        all_goals go_roundw
        all_goals first
          | (simp [intOf]; omega; done)
          | (refine ⟨k + 1, nl + 1, _, _, left ++ [⟨a5, c5, [(i : Int), (j : Int)]⟩], by omega, by go_num, HP6.out.2.1, HP6.out.2.2.1, HP6.out.2.2.2.1, by omega, Lib.hid ?_, HP6.out.2.2.2.2⟩
             rw [HT.out, List.map_append]
             show RowsAre _ (pairs ((rows.take k).map Hd.xs ++ [[(i : Int), (j : Int)]]))
             rw [pairs_snoc, if_pos (by simp; omega)]
             exact rowsAre_snoc hps.out rfl)
    · obtain rfl : k = len := by omega
      rw [List.take_of_length_le (by have := HL.out; omega)] at hps
      have hinv0 : OrdInv spare ps0 := by
        rw [HPS.out]
        refine ordInv_pairs (fun x hx => ?_) H4.out
        obtain ⟨r, hr, rfl⟩ := List.mem_map.1 hx
        exact HM.out r hr
      have hl0 : ps0.length ≤ 300 := by
        rw [HPS.out]
        have h1 := pairs_length (rows.map Hd.xs)
        have h2 := HL.out
        rw [List.length_map] at h1
        omega
      rw [← HPS.out] at hps
      have hst : Hid (RowsAre left ps0 ∧ RowsAre [] [] ∧ OrdInv spare ps0 ∧ ordMeas ps0 ≤ 2 * ps0.length + 1 ∧ ordEnd spare (2 * ps0.length + 1) ps0 [] = ordRes spare ps0) := Lib.hid ⟨hps.out, rfl, hinv0, ordMeas_le _, rfl⟩
      have hor : Ord wr (bl + 1) al nl cl left none 0 0 [] := ⟨hm, ⟨World.ownsRow_nil _ _ _ _, by simp⟩, by rintro k' _ ⟨⟩, by simpa using hnd⟩
      clear hin hps hm hnd hinv0
      go_wp2
      go_loopg [7] (2 * ps0.length + 1) (fun F o wr => ∃ (nl cl no co : Nat) (al ao : Option Addr) (left out : List Hd) (ps qs : List (Int × Int)), o = .slice ao no co ∧ Box wr bl (.slice al nl cl) ∧ Ord wr (bl + 1) al nl cl left ao no co out ∧ Hid (RowsAre left ps ∧ RowsAre out qs ∧ OrdInv spare ps ∧ ordMeas ps ≤ F ∧ ordEnd spare F ps qs = ordRes spare ps0) ∧ nl ≤ 300 ∧ no + F ≤ 601 ∧ Below w.heap.size w wr)
      case atStart => exact ⟨nl, cl, 0, 0, al, none, left, [], ps0, [], rfl, hbx, hor, hst, by omega, by omega, hbr⟩
      case round =>
        obtain ⟨nl, cl, no, co, al, ao, left, out, ps, qs, rfl, hbx, hor, hst, hnl, hno, hbr⟩ := hrel
        clear hlt hl0
        have hbxc := hbx.cell
        by_cases hz : nl = 0
        · subst hz
          go_wp2
          go_ret2
          exact ret_of_ord hor hst.out.1 hst.out.2.1 hst.out.2.2.2.2 (by omega) hbr
        · have hz' : 0 < nl := by omega
          clear hz
          have hfn : BoolFn wr 66 #[.pointer (some ⟨bl, 0, none⟩)] left (freeRow ps) := by
            refine ⟨fun _ _ => rfl, fun r hrm W hW => ?_⟩
            obtain ⟨j, hj⟩ := List.getElem?_of_mem hrm
            obtain ⟨m, hm, hx⟩ := hst.out.1.get hj
            rw [freeRow_enc ps r m hx]
            obtain ⟨ra, rc, rx⟩ := r
            simp only at hx
            subst hx
            exact ordOuter_any ra rc bl al nl cl m left ps W ((hor.L.at.rows _ hrm).later hW) (hbx.below hW).cell (hor.L.at.toMatRd.later hW) hst.out.1 (by omega)
          obtain ⟨F, hF, hmeas, hend, hinv⟩ := ord_round (out := qs) (R := ordRes spare ps0) (F := gk) (by
            intro he
            have h1 := hst.out.1.length
            have h2 := hor.L.at.length
            rw [he] at h1
            simp at h1
            rw [h1] at h2
            simp at h2
            omega) hst.out.2.2.1 hst.out.2.2.2.1 hst.out.2.2.2.2
          have hidx := idxOf_free hst.out.1 (freeRow ps) (fun r _ m h => freeRow_enc ps r m h)
          have HIX := Lib.hid hidx
          have HFN := Lib.hid hfn
          have HB1 := Lib.hid (And.intro hmeas (And.intro hend hinv))
          have hmrd := hor.L.at.toMatRd
          clear hidx hfn hmeas hend hinv
          cases hfa : freeAt ps with
          | some k =>
            have hix := HIX.out
            simp only [hfa] at hix
            have HK := Lib.hid hfa
            have HI := Lib.hid hix
            clear hix hfa HIX
            go_wp2_with fail
            refine (indexFunc_any _ _ _ al nl cl left wr hmrd HFN.out (by omega)).mono ?_
            rw [HI.out]
            rintro e w5 ⟨rfl, hb5⟩
            have hbx5 := hbx.below hb5
            have hbxc5 := hbx5.cell
            have hor5 := hor.below hb5
            have hb05 := hbr.trans (hb5.mono hbr.size)
            obtain ⟨m, hmk, _, _⟩ := freeAt_some HK.out
            have hkn : k < nl := by
              have h1 := hst.out.1.length
              have h2 := hor.L.at.length
              have h3 := (List.getElem?_eq_some_iff.1 hmk).1
              omega
            have HMK := Lib.hid hmk
            obtain ⟨g, ai, ci, xs, rfl, hx, hcg, hfg, hgl, hrown⟩ := mine_place hor5.L hkn
            have HX := Lib.hid hx
            have hlo5 : bl + 1 ≤ w5.heap.size := hbx5.lt
            clear hmk hx hmrd HFN HI hbx hor hbr hb5
            go_wp2_with (at_builtin; refine app_row rfl (.tmp 59) (.tmp 64) rfl (bl + 1) _ no _ rfl (hor5.O.own.alloc _) _ _ _ rfl (rowAt_one _ _ _) rfl (by omega) (by simp; omega) ?_; intro a6 c6 w6 hown6 hg6 hlies6; have HM6 := Lib.hid (ord_move hb05 (by omega) hbs hbx5 hor5 HX.out rfl hown6 hg6 hlies6); have hbxc6 := HM6.out.1.cell; clear hown6 hg6 hlies6 hrown hfg)
            have hown6L := HM6.out.2.1
            have HCT := Lib.hid HM6.out.2.2
            go_wp2_with fail
            refine (delete_any (bl + 1) g nl cl k _ w6 hown6L (by intro u hu; obtain ⟨r, _, rfl⟩ := List.mem_map.1 hu; rfl) hkn (by omega)).mono ?_
            rintro e w7 ⟨rfl, hown7, hg7⟩
            have HR := Lib.hid (HCT.out w7 hown7 hg7)
            have hbxc7 := HR.out.1.cell
            have hbxf7 := HR.out.1.free
            clear HCT hown7 hg7
            go_wp2
            go_roundg F
            case measure => omega
            case rel =>
              have hs1 := HB1.out
              rw [ordStep_some HK.out HMK.out] at hs1
              obtain ⟨m', hm', hxe⟩ := hst.out.1.get HX.out
              obtain rfl : m = m' := by rw [HMK.out] at hm'; exact Option.some.inj hm'
              exact ⟨nl - 1, cl, no + 1, c6, _, a6, left.eraseIdx k, out ++ [⟨ai, ci, xs⟩], _, _, rfl, HR.out.2.1, HR.out.2.2.1, Lib.hid ⟨rowsAre_erase hst.out.1 k, rowsAre_snoc hst.out.2.1 hxe, hs1.2.2, hs1.1, hs1.2.1⟩, by omega, by omega, HR.out.2.2.2⟩
          | none =>
            have hix := HIX.out
            simp only [hfa] at hix
            have HK := Lib.hid hfa
            have HI := Lib.hid hix
            clear hix hfa HIX
            go_wp2_with fail
            refine (indexFunc_any _ _ _ al nl cl left wr hmrd HFN.out (by omega)).mono ?_
            rw [HI.out]
            rintro e w5 ⟨rfl, hb5⟩
            have hbx5 := hbx.below hb5
            have hbxc5 := hbx5.cell
            have hor5 := hor.below hb5
            have hb05 := hbr.trans (hb5.mono hbr.size)
            obtain ⟨g, ai, ci, xs, rfl, hx, hcg, hfg, hgl, hrown⟩ := mine_place hor5.L hz'
            obtain ⟨m, hm0, hxe⟩ := hst.out.1.get hx
            simp only at hxe
            subst hxe
            obtain ⟨m1, m2⟩ := m
            have HM0 := Lib.hid hm0
            rw [show (enc (m1, m2)).length = 2 from rfl] at hcg
            have hri := (ints_of_own hrown).toIntsRd
            obtain ⟨bm, om, rfl, hd0, hd1⟩ := two_cells (x := m1) (y := m2) hri
            have hlo5 : bl + 1 ≤ w5.heap.size := hbx5.lt
            have hs1 := HB1.out
            rw [ordStep_none HK.out HM0.out] at hs1
            have HS1 := Lib.hid hs1
            clear hs1 HB1 hm0 hx hmrd HFN HI HK hbx hor hbr hb5 hrown hfg hri
            have hnps : nl = ps.length := by rw [← hst.out.1.length]; exact hor5.L.at.length.symm
            have HNP := Lib.hid hnps
            have hor6 := hor5
            have hone := rowAt_one (w5.alloc (.cells #[.int .i64 spare, .int .i64 m1] 3)) (.slice (some ⟨w5.heap.size, 0, none⟩) 2 2) 22
            rw [World.size_alloc] at hone
            clear hnps
            go_wp2_with (at_builtin; refine app_row rfl (.tmp 76) (.tmp 80) rfl (bl + 1) _ no _ rfl ((hor5.O.own.alloc _).alloc _) _ _ _ rfl hone rfl (by omega) (by simp; omega) ?_; intro a6 c6 w6 hown6 hg6 hlies6; have HM6 := Lib.hid (ord_spill (ys := [spare, m1]) hb05 (by omega) hlo5 hbx5 hor5 (by show 2 ≤ maxLen; unfold maxLen; omega) hown6 hg6 hlies6); have hbxc6 := HM6.out.1.cell; clear hown6 hg6 hlies6)
            clear hor6 hone
            go_loopw [84] (fun i wx => ∃ (q : Nat) (leftq : List Hd), q ≤ nl ∧ i = .int .i64 q ∧ Box wx bl (.slice (some ⟨g, 0, none⟩) nl cl) ∧ Ord wx (bl + 1) (some ⟨g, 0, none⟩) nl cl leftq a6 (no + 1) c6 (out ++ [⟨some ⟨w5.heap.size, 0, none⟩, 2, [spare, m1]⟩]) ∧ Hid (RowsAre leftq ((ps.take q).map (swapTo spare m1) ++ ps.drop q)) ∧ Below w.heap.size w wx) (fun i _ => nl - (intOf i).toNat)
            case atStart => exact ⟨0, left, Nat.zero_le _, rfl, HM6.out.1, HM6.out.2.1, Lib.hid hst.out.1, HM6.out.2.2⟩
            case round =>
              obtain ⟨q, leftq, hq, rfl, hbxq, horq, hrq, hbq⟩ := hrel
              clear hbx5 hor5 hb05 hbxc5
              by_cases hltq : q < nl
              · obtain ⟨g', aq, cq, xq, hgg, hxq, hcq, _, _, hrownq⟩ := mine_place horq.L hltq
                obtain rfl : g = g' := by simpa using hgg
                obtain ⟨mq, hmq⟩ : ∃ mq, ps[q]? = some mq := ⟨_, List.getElem?_eq_getElem (by have := HNP.out; omega)⟩
                obtain ⟨mq', hmq', hxe⟩ := hrq.out.get hxq
                obtain rfl : mq = mq' := by
                  rw [turn_get _ _ hmq] at hmq'
                  exact Option.some.inj hmq'
                simp only at hxe
                subst hxe
                obtain ⟨x, y⟩ := mq
                obtain ⟨gr, rfl, hc1, hf1, _⟩ := own_cell (xs := enc (x, y)) hrownq (i := 1) (by show 1 < 2; omega)
                have hc1' : wr.cell? ⟨gr, 1, none⟩ = some (.int .i64 y) := hc1
                have HXQ := Lib.hid hxq
                have HMQ := Lib.hid hmq
                clear hxq hmq hmq' hgg hc1 hrownq
                have hl2 : (enc (x, y)).length = 2 := rfl
                rw [hl2] at hcq
                clear hl2
                by_cases hy : y = m1
                · subst hy
                  have hd : (y == y) = true := by simp
                  have HT := Lib.hid (ord_turned hbq (by omega) hbxq horq HXQ.out spare)
                  go_wp2
                  go_roundw
                  case rel =>
                    refine ⟨q + 1, _, by omega, by go_num, HT.out.1, HT.out.2.1, Lib.hid ?_, HT.out.2.2⟩
                    rw [turn_list _ _ HMQ.out]
                    exact rowsAre_set hrq.out q (by rw [swapTo, if_pos rfl]; rfl)
                  case measure => simp [intOf]; omega
                · have hd : (y == m1) = false := by simpa using hy
                  go_wp2
                  go_roundw
                  case rel =>
                    refine ⟨q + 1, leftq, by omega, by go_num, hbxq, horq, Lib.hid ?_, hbq⟩
                    rw [turn_list _ _ HMQ.out, swapTo, if_neg hy]
                    have h1 := hrq.out
                    have h2 := turn_get (swapTo spare m1) ps HMQ.out
                    rw [set_same h2]
                    exact h1
                  case measure => simp [intOf]; omega
              · obtain rfl : q = nl := by omega
                go_wp2
                go_roundg F
                case measure => omega
                case rel =>
                  have h1 := hrq.out
                  rw [List.take_of_length_le (by have := HNP.out; omega), List.drop_of_length_le (by have := HNP.out; omega), List.append_nil] at h1
                  exact ⟨q, cl, no + 1, c6, _, a6, leftq, _, _, _, rfl, hbxq, horq, Lib.hid ⟨h1, rowsAre_snoc hst.out.2.1 rfl, HS1.out.2.2, HS1.out.1, HS1.out.2.1⟩, by omega, by omega, hbq⟩

end Go.Proofs.Ythadaohnanpmiaa
