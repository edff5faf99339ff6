
/-
  The places that set registers: the reference's walk.
-/
import Derived.Test.YtkhnhdgbbjppeaaSetsImpl
namespace Go.Proofs.Ytkhnhdgbbjppeaa
open Go.RowKit

theorem info_mat : (Try.prog.info? 33).map (fun i => (i.zero, i.size, i.bytes)) = some (some (.slice none 0 0), 1, 24) := by kernel_rfl
theorem und_mats : Try.prog.underlying 74 = some (.slice 33) := by kernel_rfl

theorem specMadeBy_any (cs : List Value) (x : InsD) (w : World) (hR : InsR w cs x) :
    Calls Try.prog 106 #[.agg cs.toArray] w fun e w' => e = .returned (.int .i64 (madeP x)) ∧ Below w.heap.size w w' := by
  obtain ⟨aa, ac, rfl, _, _⟩ := hR
  obtain ⟨op, tr, args, num⟩ := x
  have hb0 : Below w.heap.size w (w.alloc (.cells #[.int .i64 op, .int .i64 tr, .slice aa args.length ac, .int .i64 num] 72)) := (Below.refl _ _).alloc (Nat.le_refl _) _
  cases hv : makesB op with
  | false =>
    have HM := Lib.hid (show madeP ⟨op, tr, args, num⟩ = -1 by simp [madeP, hv])
    go_enter Try.func106, Try.ntmps106
    go_wp2_with fail
    refine (l7Makes_any op _).mono ?_
    rw [hv]
    rintro e w1 ⟨rfl, rfl⟩
    go_wp2
    go_ret
    exact ⟨ret_int HM.out.symm, hb0⟩
  | true =>
    have HM := Lib.hid (show madeP ⟨op, tr, args, num⟩ = tr by simp [madeP, hv])
    go_enter Try.func106, Try.ntmps106
    go_wp2_with fail
    refine (l7Makes_any op _).mono ?_
    rw [hv]
    rintro e w1 ⟨rfl, rfl⟩
    go_wp2
    go_ret
    exact ⟨ret_int HM.out.symm, hb0⟩

/-- The slices of a row lead to these pairs. -/
structure PRows (wr : World) (r : Rw) (ps : List Pl) : Prop where
  n : r.n = ps.length
  len : r.vs.length = ps.length
  cell : ∀ (k : Nat) v p, r.vs[k]? = some v → ps[k]? = some p → ∃ a, v = .slice (some ⟨a, 0, none⟩) 2 2 ∧ wr.heap[a]? = some (.cells #[.int .i64 p.1, .int .i64 p.2] 3 (0, 0))
theorem PRows.keep {wr w' : World} {r : Rw} {ps : List Pl} (h : PRows wr r ps) (hk : ∀ (a : Nat) C, wr.heap[a]? = some (.cells C 3 (0, 0)) → w'.heap[a]? = some (.cells C 3 (0, 0))) : PRows w' r ps :=
  ⟨h.n, h.len, fun k v p hv hp => by obtain ⟨a, h1, h2⟩ := h.cell k v p hv hp; exact ⟨a, h1, hk a _ h2⟩⟩
/-- The table of places, while it is filled. -/
structure SetS (g n : Nat) (L : List (Int × Pl)) (w wr : World) : Prop where
  nest : ∃ rows, Nest 33 40 1 w.heap.size g n rows wr ∧ ∀ (j : Nat) r ps, rows[j]? = some r → (setsP n L)[j]? = some ps → PRows wr r ps
  below : Below w.heap.size w wr
  lo : w.heap.size ≤ g
theorem SetS.lt {g n : Nat} {L : List (Int × Pl)} {w wr : World} (h : SetS g n L w wr) : g < wr.heap.size := by
  obtain ⟨rows, h1, _⟩ := h.nest
  exact (h1.own.lt g rfl).2
theorem keep_below {wr w' : World} (hb : Below wr.heap.size wr w') : ∀ (a : Nat) C, wr.heap[a]? = some (.cells C 3 (0, 0)) → w'.heap[a]? = some (.cells C 3 (0, 0)) :=
  fun a _ h => (hb.block a (Array.getElem?_eq_some_iff.1 h).1).trans h
theorem SetS.later {g n : Nat} {L : List (Int × Pl)} {w wr w' : World} (h : SetS g n L w wr) (hb : Below wr.heap.size wr w') : SetS g n L w w' := by
  obtain ⟨rows, h1, h2⟩ := h.nest
  exact ⟨⟨rows, h1.below hb, fun j r ps hj hp => (h2 j r ps hj hp).keep (keep_below hb)⟩, h.below.trans (hb.mono h.below.size), h.lo⟩
theorem SetS.start {g n : Nat} {w w1 : World} (h : w1.ownsRow w.heap.size 33 1 (.slice (some ⟨g, 0, none⟩) n n) n (List.replicate n (.slice none 0 0))) (hb : Below w.heap.size w w1) (hlo : w.heap.size ≤ g) : SetS g n [] w w1 := by
  refine ⟨⟨_, Nest.start h, fun j r ps hj hps => ?_⟩, hb, hlo⟩
  rw [List.getElem?_replicate] at hj
  rw [setsP, List.foldl_nil, List.getElem?_replicate] at hps
  by_cases hjn : j < n
  · rw [if_pos hjn] at hj hps
    cases hj
    cases hps
    exact ⟨rfl, rfl, fun k v p hv _ => by simp [nilRw] at hv⟩
  · rw [if_neg hjn] at hj
    cases hj
theorem SetS.get {g n : Nat} {L : List (Int × Pl)} {w wr : World} (h : SetS g n L w wr) {m : Nat} (hm : m < n) :
    ∃ rows r ps, Nest 33 40 1 w.heap.size g n rows wr ∧ (∀ (j : Nat) r ps, rows[j]? = some r → (setsP n L)[j]? = some ps → PRows wr r ps) ∧ rows[m]? = some r ∧ (setsP n L)[m]? = some ps ∧ PRows wr r ps ∧ r.n ≤ L.length ∧ wr.cell? ⟨g, m, none⟩ = some (.slice r.a r.n r.cap) ∧ wr.frozen? ⟨g, m, none⟩ = false ∧ wr.ownsRow w.heap.size 40 1 (.slice r.a r.n r.cap) r.n r.vs := by
  obtain ⟨rows, h1, h2⟩ := h.nest
  obtain ⟨r, h3, h4, h5, h6⟩ := h1.get hm
  obtain ⟨ps, h7, _, h8⟩ := setsP_get L hm
  have h9 := h2 m r ps h3 h7
  exact ⟨rows, r, ps, h1, h2, h3, h7, h9, by have := h9.n; omega, h4, h5, h6⟩
theorem SetS.push {g n : Nat} {L : List (Int × Pl)} {w wr w1 : World} {rows : List Rw} {r : Rw} {m : Nat} {a' : Option Addr} {c' : Nat} {p : Pl} {o : Obj} (hn : Nest 33 40 1 w.heap.size g n rows wr) (hrel : ∀ (j : Nat) r ps, rows[j]? = some r → (setsP n L)[j]? = some ps → PRows wr r ps) (hbw : Below w.heap.size w wr) (hlo : w.heap.size ≤ g) (hr : rows[m]? = some r)
    (hown : w1.ownsRow w.heap.size 40 1 (.slice a' (r.n + 1) c') (r.n + 1) (r.vs ++ [.slice (some ⟨wr.heap.size, 0, none⟩) 2 2])) (hg : ((wr.alloc (.cells #[.int .i64 p.1, .int .i64 p.2] 3)).alloc o).grownBy w1 (Value.slice r.a r.n r.cap).ownBlock)
    (hlies : (Value.slice a' (r.n + 1) c').ownBlock = (Value.slice r.a r.n r.cap).ownBlock ∨ (Value.slice a' (r.n + 1) c').ownBlock = some ((wr.alloc (.cells #[.int .i64 p.1, .int .i64 p.2] 3)).alloc o).heap.size) : SetS g n (L ++ [((m : Int), p)]) w (w1.setCell ⟨g, m, none⟩ (.slice a' (r.n + 1) c')) := by
  have hb1 : Below wr.heap.size wr (wr.alloc (.cells #[.int .i64 p.1, .int .i64 p.2] 3)) := (Below.refl _ _).alloc (Nat.le_refl _) _
  have hb2 : Below (wr.alloc (.cells #[.int .i64 p.1, .int .i64 p.2] 3)).heap.size (wr.alloc (.cells #[.int .i64 p.1, .int .i64 p.2] 3)) ((wr.alloc (.cells #[.int .i64 p.1, .int .i64 p.2] 3)).alloc o) := (Below.refl _ _).alloc (Nat.le_refl _) _
  have hb : Below wr.heap.size wr ((wr.alloc (.cells #[.int .i64 p.1, .int .i64 p.2] 3)).alloc o) := hb1.trans (hb2.mono hb1.size)
  have hput := hn.put (r' := ⟨a', c', r.n + 1, r.vs ++ [Value.slice (some ⟨wr.heap.size, 0, none⟩) 2 2]⟩) (by decide) hr hb hg hown (hlies.imp id (fun h => ⟨_, h, hb.size⟩))
  have hro := hn.row r (List.mem_of_getElem? hr)
  have hro2 := ownsRow_below hro hb1
  have hmr := (List.getElem?_eq_some_iff.1 hr).1
  -- the pairs' blocks stand
  have hgo := own_type hput.own (k := g) rfl
  have hstore : ∀ (a : Nat) C, w1.heap[a]? = some (.cells C 3 (0, 0)) → (w1.setCell ⟨g, m, none⟩ (.slice a' (r.n + 1) c')).heap[a]? = some (.cells C 3 (0, 0)) := fun a C h => by
    by_cases e : a = g
    · subst e
      obtain ⟨cur, hc⟩ := own_type hn.own (k := a) rfl
      have h3 := kept_of_grown hro hb hg hc (by decide)
      rw [h3] at h
      simp at h
    · exact (heap_setCell_other w1 ⟨g, m, none⟩ a _ (fun h => e h)).trans h
  have hkeep : ∀ (a : Nat) C, wr.heap[a]? = some (.cells C 3 (0, 0)) → (w1.setCell ⟨g, m, none⟩ (.slice a' (r.n + 1) c')).heap[a]? = some (.cells C 3 (0, 0)) :=
    fun a C h => hstore a C (kept_of_grown hro hb hg h (by decide))
  have hnew : (w1.setCell ⟨g, m, none⟩ (.slice a' (r.n + 1) c')).heap[wr.heap.size]? = some (.cells #[.int .i64 p.1, .int .i64 p.2] 3 (0, 0)) :=
    hstore _ _ (kept_of_grown (v := .slice r.a r.n r.cap) hro2 hb2 hg (heap_alloc_new wr _) (by decide))
  refine ⟨⟨_, hput, fun j r2 ps hj hps => ?_⟩, ((hbw.trans (hb.mono hbw.size)).grown hg (Nat.le_trans hbw.size hb.size) (fun k hk => (hro.lt k hk).1)).setCell hlo _, hlo⟩
  rw [setsP_snoc, addAt, Int.toNat_natCast, List.getElem?_set] at hps
  rw [List.getElem?_set] at hj
  by_cases e : m = j
  · subst e
    rw [if_pos rfl, if_pos hmr] at hj
    have hml : m < (setsP n L).length := by rw [setsP_len]; have := hn.len; omega
    rw [if_pos rfl, if_pos hml] at hps
    cases hj
    cases hps
    have hx : (setsP n L)[m]? = some ((setsP n L)[m]'hml) := List.getElem?_eq_getElem _
    have h1 := hrel m r _ hr hx
    have hgd : (setsP n L).getD m [] = (setsP n L)[m]'hml := by rw [List.getD_eq_getElem?_getD, hx]; rfl
    simp only
    rw [hgd]
    have h2 := h1.len
    refine ⟨by simp [h1.n], by simp [h2], fun k v q hv hq => ?_⟩
    rw [List.getElem?_append] at hv hq
    by_cases hk : k < ((setsP n L)[m]'hml).length
    · rw [if_pos (by omega)] at hv
      rw [if_pos hk] at hq
      obtain ⟨a, h3, h4⟩ := h1.cell k v q hv hq
      exact ⟨a, h3, hkeep a _ h4⟩
    · rw [if_neg (by omega)] at hv
      rw [if_neg hk] at hq
      obtain ⟨q0, hq0⟩ : ∃ q0, q0 = k - ((setsP n L)[m]'hml).length := ⟨_, rfl⟩
      rw [h2, ← hq0] at hv
      rw [← hq0] at hq
      cases q0 with
      | zero =>
        simp at hv hq
        subst hv hq
        exact ⟨_, rfl, hnew⟩
      | succ q0 => simp at hv
  · rw [if_neg e] at hj hps
    exact (hrel j r2 ps hj hps).keep hkeep

set_option maxRecDepth 100000 in
set_option maxHeartbeats 4000000 in
theorem l13Sets_any (cs : List Value) (c : CodeD) (w : World) (n : Nat) (hR : CodeR w cs c) (hs : szCodeD c ≤ 1048576) (hreg : c.regs = (n : Int)) (hn : n ≤ 300) (hok : SetsOk n c.blocks) :
    Calls Try.prog 64 #[.agg cs.toArray] w fun e w' => ∃ g, e = .returned (.slice (some ⟨g, 0, none⟩) n n) ∧ SetS g n (evBl c.blocks c.blocks.length) w w' := by
  obtain ⟨params, regs, blocks⟩ := c
  obtain ⟨ba, bc, rfl, _, hrd⟩ := hR
  obtain rfl : regs = (n : Int) := hreg
  have hrd : SliceRd 5 BlockR w ba blocks.length blocks := hrd
  have hok : SetsOk n blocks := hok
  have hs : szS szBlockD blocks ≤ 1048576 := hs
  show Calls _ _ _ _ fun e w' => ∃ g, e = .returned (.slice (some ⟨g, 0, none⟩) n n) ∧ SetS g n (evBl blocks blocks.length) w w'
  have hbl : blocks.length ≤ 1048576 := Nat.le_trans (szS_len szBlockD blocks) hs
  have HO := Lib.hid (And.intro hok hs)
  obtain ⟨i0, hi, hz0, hz1, hz2⟩ := info_parts info_mat
  have hb0 : Below w.heap.size w (w.alloc (.cells #[.int .i64 params, .int .i64 (n : Int), .slice ba blocks.length bc] 51)) := (Below.refl _ _).alloc (Nat.le_refl _) _
  have hC0 := heap_alloc_new w (.cells #[.int .i64 params, .int .i64 (n : Int), .slice ba blocks.length bc] 51)
  have hc1 : (w.alloc (.cells #[.int .i64 params, .int .i64 (n : Int), .slice ba blocks.length bc] 51)).cell? ⟨w.heap.size, 1, none⟩ = some (.int .i64 (n : Int)) := cell_of_row _ _ 1 _ _ _ hC0
  have hs0 : (w.alloc (.cells #[.int .i64 params, .int .i64 (n : Int), .slice ba blocks.length bc] 51)).heap.size = w.heap.size + 1 := by simp
  have HC := Lib.hid (And.intro hb0 hC0)
  clear hs hok hC0
  go_enter Try.func64, Try.ntmps64
  go_wp2_with (at_make; refine wpList_make_full _ rfl _ _ 74 rfl w.heap.size 33 i0 (.slice none 0 0) 1 und_mats hi hz0 hz1 _ _ _ _ n rfl rfl rfl rfl (by rw [hz2]; omega) (by unfold maxLen; omega) (by simp) ?_; intro w1 hown hg; (rw [Nat.mul_one, show (Value.slice none 0 0).cells = #[Value.slice none 0 0] from rfl, toList_madeCells_one, hs0] at hown); (have hb1 : Below w.heap.size w w1 := hb0.trans ((Below.refl _ _).grown hg hb0.size (by simp))); (have HC1 := Lib.hid (And.intro (show SetS (w.heap.size + 1) n [] w w1 from SetS.start hown hb1 (by omega)) ((hg.block _ (by simp) (by simp)).trans HC.out.2))); clear hown hg hi hz0 hz1 hz2 hb0 hc1 hs0 HC hb1)
  go_loopg [4] blocks.length (fun F i wr => ∃ b : Nat, b + F = blocks.length ∧ i = .int .i64 b ∧ Hid (SetS (w.heap.size + 1) n (evBl blocks b) w wr ∧ wr.heap[w.heap.size]? = some (.cells #[.int .i64 params, .int .i64 (n : Int), .slice ba blocks.length bc] 51)))
  case atStart => exact ⟨0, by omega, rfl, HC1⟩
  case round =>
    obtain ⟨b, hb, rfl, HK⟩ := hrel
    clear HC1
    have k2 : wr.cell? ⟨w.heap.size, 2, none⟩ = some (.slice ba blocks.length bc) := cell_of_row _ _ 2 _ _ _ HK.out.2
    by_cases hlt : b < blocks.length
    · obtain ⟨b1, o1, phis, ins, jump, jon, nx, pa, pc, ia, ic, na, nc, rfl, hx, c0, c1, c2, c3, c4, hR⟩ := block_place hrd hlt
      obtain ⟨_, _, _, _, _, _, hcs, hph, hins, _⟩ := hR
      simp only [List.cons.injEq, Value.slice.injEq, and_true, true_and] at hcs
      obtain ⟨⟨rfl, rfl⟩, ⟨rfl, rfl⟩, rfl, rfl⟩ := hcs
      have hzb := szBlock_parts (szS_get (sz := szBlockD) HO.out.2 hx).1
      have hpl : phis.length ≤ 1048576 := Nat.le_trans (szS_len szPhiD phis) hzb.1
      have hil : ins.length ≤ 1048576 := Nat.le_trans (szS_len szInsD ins) hzb.2.1
      have HOB := Lib.hid (HO.out.1 _ (List.mem_of_getElem? hx))
      have HXB := Lib.hid hx
      have HE0 := Lib.hid (And.intro c0 c1)
      have hbi : (b : Int) < (blocks.length : Int) := by omega
      clear hx c0 c1 c2 c3 c4 hzb
      go_wp2_with fail
      clear k2
      go_loopg [5] phis.length (fun F i wq => ∃ k : Nat, k + F = phis.length ∧ i = .int .i64 k ∧ Hid (SetS (w.heap.size + 1) n (evBl blocks b ++ evPhis b (phis.take k)) w wq ∧ wq.heap[w.heap.size]? = some (.cells #[.int .i64 params, .int .i64 (n : Int), .slice (some ⟨b1, o1, none⟩) blocks.length bc] 51)))
      case atStart => exact ⟨0, by omega, rfl, Lib.hid ⟨by simpa [evPhis] using HK.out.1, HK.out.2⟩⟩
      case round =>
        obtain ⟨k, hk, rfl, HQ⟩ := hrel
        clear HK
        have k2 : wr.cell? ⟨w.heap.size, 2, none⟩ = some (.slice (some ⟨b1, o1, none⟩) blocks.length bc) := cell_of_row _ _ 2 _ _ _ HQ.out.2
        have d0 := cell_later HQ.out.1.below HE0.out.1
        by_cases hlt2 : k < phis.length
        · obtain ⟨b2, o2, tr, args, aa, ac, rfl, hxp, e0, e1, hRp⟩ := phi_place hph.2 hlt2
          obtain ⟨ht0, ht1⟩ := HOB.out.1 _ (List.mem_of_getElem? hxp)
          have ht0 : 0 ≤ tr := ht0
          have ht1 : tr < (n : Int) := ht1
          obtain ⟨m, rfl⟩ : ∃ m : Nat, tr = (m : Int) := ⟨tr.toNat, by omega⟩
          have f0 := cell_later HQ.out.1.below e0
          have HX2 := Lib.hid (evPhis_succ (b := b) hxp)
          have hsm := ev_small HO.out.2 HXB.out (k := k) (i := 0) (Nat.zero_le _)
          have hsm : (evBl blocks b ++ (evPhis b (phis.take k) ++ [])).length ≤ 1048576 := hsm
          rw [List.append_nil] at hsm
          clear hxp e0 e1 hRp
          obtain ⟨rows, r, ps, hN, hrel, hr, hps, hpr, hrl, hgc, hgf, hown⟩ := HQ.out.1.get (m := m) (by omega)
          have HSZ := HQ.out.1.below.size
          have HNN := Lib.hid (And.intro hN (And.intro hrel (And.intro hr hown)))
          have hbA : Below wr.heap.size wr ((wr.alloc (.cells #[.int .i64 (b : Int), .int .i64 (-1 : Int)] 3)).alloc (.cells #[.slice (some ⟨wr.heap.size, 0, none⟩) 2 2] 40)) := ((Below.refl _ _).alloc (Nat.le_refl _) _).alloc (by simp) _
          have HBA := Lib.hid hbA
          clear hN hrel hps hpr hown hbA
          go_wp2_with (at_builtin; (refine app_row rfl (.tmp 45) (.tmp 48) rfl w.heap.size _ r.n r.vs rfl ((HNN.out.2.2.2.alloc _).alloc _) _ _ _ rfl (pair_row _ _ _) rfl (by omega) (by simp only [World.size_alloc]; omega) ?_); intro a5 c5 w5 hown5 hg5 hlies5; (obtain ⟨hgc5, hgf5⟩ := HNN.out.1.grown (by decide) HNN.out.2.2.1 HBA.out hg5); (have hgc5 : w5.cell? ⟨w.heap.size + 1, m, none⟩ = some (.slice r.a r.n r.cap) := hgc5); (have hbx5 := kept_of_grown HNN.out.2.2.2 HBA.out hg5 HQ.out.2 (by decide)))
          have HN := Lib.hid (And.intro (SetS.push (p := ((b : Int), (-1 : Int))) HNN.out.1 HNN.out.2.1 HQ.out.1.below HQ.out.1.lo HNN.out.2.2.1 hown5 hg5 hlies5) ((heap_setCell_other w5 ⟨w.heap.size + 1, m, none⟩ w.heap.size (.slice a5 (r.n + 1) c5) (by simp)).trans hbx5))
          clear hown5 hg5 hlies5 hgc5 hgf5 hbx5 hgc hgf HNN HQ
          go_roundg (gk - 1)
          case measure => omega
          case rel => exact ⟨k + 1, by omega, by go_num, Lib.hid ⟨by rw [HX2.out, ← List.append_assoc]; exact HN.out.1, HN.out.2⟩⟩
        · obtain rfl : k = phis.length := by omega
          have HB := Lib.hid (show SetS (w.heap.size + 1) n (evBl blocks b ++ evPhis b phis) w wr ∧ wr.heap[w.heap.size]? = some (.cells #[.int .i64 params, .int .i64 (n : Int), .slice (some ⟨b1, o1, none⟩) blocks.length bc] 51) from by have h1 := HQ.out; rw [List.take_length] at h1; exact h1)
          clear HQ
          go_wp2_with fail
          clear k2 d0
          go_loopg [7] ins.length (fun F i wq => ∃ j : Nat, j + F = ins.length ∧ i = .int .i64 j ∧ Hid (SetS (w.heap.size + 1) n (evBl blocks b ++ evPhis b phis ++ evTo b ins j) w wq ∧ wq.heap[w.heap.size]? = some (.cells #[.int .i64 params, .int .i64 (n : Int), .slice (some ⟨b1, o1, none⟩) blocks.length bc] 51)))
          case atStart => exact ⟨0, by omega, rfl, Lib.hid ⟨by simpa [evTo] using HB.out.1, HB.out.2⟩⟩
          case round =>
            obtain ⟨j, hj, rfl, HQ⟩ := hrel
            clear HB
            have k2 : wr.cell? ⟨w.heap.size, 2, none⟩ = some (.slice (some ⟨b1, o1, none⟩) blocks.length bc) := cell_of_row _ _ 2 _ _ _ HQ.out.2
            have d1 := cell_later HQ.out.1.below HE0.out.2
            by_cases hlt3 : j < ins.length
            · obtain ⟨b2, o2, op, tr, args, num, aa, ac, rfl, hxi, e0, e1, e2, e3, hRi⟩ := ins_place hins.2 hlt3
              have hto := HOB.out.2 _ (List.mem_of_getElem? hxi)
              have hto : makesB op = true → 0 ≤ tr ∧ tr < (n : Int) := hto
              have f0 := cell_later HQ.out.1.below e0
              have f1 := cell_later HQ.out.1.below e1
              have f2 := cell_later HQ.out.1.below e2
              have f3 := cell_later HQ.out.1.below e3
              have HRi := Lib.hid (insR_lasts _ _ _ _ HQ.out.1.below hRi)
              have HX3 := Lib.hid hxi
              clear hxi e0 e1 e2 e3 hRi
              cases hmk : makesB op with
              | false =>
                have HE := Lib.hid (evTo_no (b := b) HX3.out hmk)
                have HMP := Lib.hid (show madeP ⟨op, tr, args, num⟩ = -1 by simp [madeP, hmk])
                clear hto hmk
                go_wp2_with fail
                refine (specMadeBy_any _ ⟨op, tr, args, num⟩ wr HRi.out).mono ?_
                rw [HMP.out]
                rintro e w2 ⟨rfl, hb2⟩
                have HQ2 := Lib.hid (And.intro (HQ.out.1.later hb2) ((hb2.block _ (by have := HQ.out.1.lt; omega)).trans HQ.out.2))
                clear hb2 k2 d1 f0 f1 f2 f3
                go_wp2
                go_roundg (gk - 1)
                case measure => omega
                case rel => exact ⟨j + 1, by omega, by go_num, Lib.hid ⟨by rw [HE.out]; exact HQ2.out.1, HQ2.out.2⟩⟩
              | true =>
                have HE := Lib.hid (evTo_yes (b := b) HX3.out hmk)
                have HMP := Lib.hid (show madeP ⟨op, tr, args, num⟩ = tr by simp [madeP, hmk])
                obtain ⟨ht0, ht1⟩ := hto hmk
                obtain ⟨m, rfl⟩ : ∃ m : Nat, tr = (m : Int) := ⟨tr.toNat, by omega⟩
                clear hto hmk
                go_wp2_with fail
                refine (specMadeBy_any _ ⟨op, (m : Int), args, num⟩ wr HRi.out).mono ?_
                rw [HMP.out]
                rintro e w2 ⟨rfl, hb2⟩
                have HQ2 := Lib.hid (And.intro (HQ.out.1.later hb2) ((hb2.block _ (by have := HQ.out.1.lt; omega)).trans HQ.out.2))
                clear hb2 k2 d1 f0 f1 f2 f3 HQ HRi
                have hsm := ev_small HO.out.2 HXB.out (k := phis.length) (i := j) (by show j ≤ ins.length; omega)
                have hsm : (evBl blocks b ++ (evPhis b (phis.take phis.length) ++ evTo b ins j)).length ≤ 1048576 := hsm
                rw [List.take_length, ← List.append_assoc] at hsm
                obtain ⟨rows, r, ps, hN, hrel, hr, hps, hpr, hrl, hgc, hgf, hown⟩ := HQ2.out.1.get (m := m) (by omega)
                have HSZ := HQ2.out.1.below.size
                have HNN := Lib.hid (And.intro hN (And.intro hrel (And.intro hr hown)))
                have hbA : Below w2.heap.size w2 ((w2.alloc (.cells #[.int .i64 (b : Int), .int .i64 (j : Int)] 3)).alloc (.cells #[.slice (some ⟨w2.heap.size, 0, none⟩) 2 2] 40)) := ((Below.refl _ _).alloc (Nat.le_refl _) _).alloc (by simp) _
                have HBA := Lib.hid hbA
                clear hN hrel hps hpr hown hbA
                go_wp2_with (at_builtin; (refine app_row rfl (.tmp 79) (.tmp 83) rfl w.heap.size _ r.n r.vs rfl ((HNN.out.2.2.2.alloc _).alloc _) _ _ _ rfl (pair_row _ _ _) rfl (by omega) (by simp only [World.size_alloc]; omega) ?_); intro a5 c5 w5 hown5 hg5 hlies5; (obtain ⟨hgc5, hgf5⟩ := HNN.out.1.grown (by decide) HNN.out.2.2.1 HBA.out hg5); (have hgc5 : w5.cell? ⟨w.heap.size + 1, m, none⟩ = some (.slice r.a r.n r.cap) := hgc5); (have hbx5 := kept_of_grown HNN.out.2.2.2 HBA.out hg5 HQ2.out.2 (by decide)))
                have HN := Lib.hid (And.intro (SetS.push (p := ((b : Int), (j : Int))) HNN.out.1 HNN.out.2.1 HQ2.out.1.below HQ2.out.1.lo HNN.out.2.2.1 hown5 hg5 hlies5) ((heap_setCell_other w5 ⟨w.heap.size + 1, m, none⟩ w.heap.size (.slice a5 (r.n + 1) c5) (by simp)).trans hbx5))
                clear hown5 hg5 hlies5 hgc5 hgf5 hbx5 hgc hgf HNN HQ2
                go_roundg (gk - 1)
                case measure => omega
                case rel => exact ⟨j + 1, by omega, by go_num, Lib.hid ⟨by rw [HE.out, ← List.append_assoc]; exact HN.out.1, HN.out.2⟩⟩
            · obtain rfl : j = ins.length := by omega
              go_wp2
              go_roundg (blocks.length - (b + 1))
              case measure => omega
              case rel => exact ⟨b + 1, by omega, by go_num, Lib.hid ⟨by rw [evBl_succ HXB.out, evBlock, ← List.append_assoc]; exact HQ.out.1, HQ.out.2⟩⟩
    · obtain rfl : b = blocks.length := by omega
      go_wp2
      go_ret
      exact ⟨_, rfl, HK.out.1⟩

end Go.Proofs.Ytkhnhdgbbjppeaa
