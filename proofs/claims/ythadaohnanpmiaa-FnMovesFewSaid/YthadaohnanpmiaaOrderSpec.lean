/-
  OrderMoves in the reference: the walk.
-/
import Derived.Test.YthadaohnanpmiaaOrderWalk
namespace Go.Proofs.Ythadaohnanpmiaa
open Go.RowKit

set_option maxHeartbeats 1000000 in
theorem l14From_any (a : Option Addr) (len cap : Nat) (rows : List Hd) (ps : List (Int × Int)) (m : Int × Int) (k : Nat) (w : World) (hin : MatRd w a len rows) (hs : len ≤ 1099511627776) (hps : RowsAre rows ps) (hk : ps[k]? = some m) (hm : m.1 ≠ m.2) :
    Calls Try.prog 74 #[.slice a len cap, .int .i64 m.1, .int .i64 k] w fun e w' => e = .returned (.bool (!isFree ps m)) ∧ w = w' := by
  obtain ⟨m1, m2⟩ := m
  have HL := Lib.hid hin.length
  have HK := Lib.hid hk
  have hkl : k < len := by
    have h1 := hps.length
    have h2 := hin.length
    have h3 := (List.getElem?_eq_some_iff.1 hk).1
    omega
  clear hk
  go_enter Try.func74, Try.ntmps74
  go_wp2
  go_loop [7] (fun i => ∃ j : Nat, j ≤ len ∧ i = .int .i64 j ∧ Hid (∀ q x, q < j → ps[q]? = some x → q = k ∨ x.2 ≠ m1)) (fun i => len - (intOf i).toNat)
  case atStart => exact ⟨0, Nat.zero_le _, rfl, Lib.hid (fun q x hq => by omega)⟩
  case round =>
    obtain ⟨j, hj, rfl, hno⟩ := hrel
    by_cases hlt : j < len
    · obtain ⟨b, off, ai, ci, xs, rfl, hx, hc, hi⟩ := hin.place hlt
      obtain ⟨o, ho, hxe⟩ := hps.get hx
      simp only at hxe
      subst hxe
      obtain ⟨o1, o2⟩ := o
      obtain ⟨bm, om, rfl, hd0, hd1⟩ := two_cells (x := o1) (y := o2) hi
      rw [show (enc (o1, o2)).length = 2 from rfl] at hc
      have HO := Lib.hid ho
      clear ho hx
      by_cases hjk : j = k
      · subst hjk
        have hd : ((j : Int) != (j : Int)) = false := by simp
        go_wp2
        go_round
        case rel =>
          refine ⟨j + 1, by omega, by go_num, Lib.hid (fun q x hq hqx => ?_)⟩
          by_cases hqj : q = j
          · exact .inl hqj
          · exact hno.out q x (by omega) hqx
        case measure => simp [intOf]; omega
      · have hd : ((j : Int) != (k : Int)) = true := by simp; omega
        by_cases ho2 : o2 = m1
        · have he : (o2 == m1) = true := by simpa using ho2
          have HF : Hid (true = !isFree ps (m1, m2)) := Lib.hid (by
            rw [isFree_any, Bool.not_not]
            symm
            rw [List.any_eq_true]
            exact ⟨_, List.mem_of_getElem? HO.out, by simpa using ho2⟩)
          clear ho2
          go_wp2
          go_ret
          exact ⟨ret_bool HF.out, rfl⟩
        · have he : (o2 == m1) = false := by simpa using ho2
          have HNE := Lib.hid ho2
          clear ho2
          go_wp2
          go_round
          case rel =>
            refine ⟨j + 1, by omega, by go_num, Lib.hid (fun q x hq hqx => ?_)⟩
            by_cases hqj : q = j
            · subst hqj
              rw [HO.out] at hqx
              cases hqx
              exact .inr HNE.out
            · exact hno.out q x (by omega) hqx
          case measure => simp [intOf]; omega
    · obtain rfl : j = len := by omega
      have HF : Hid (false = !isFree ps (m1, m2)) := Lib.hid (by
        rw [isFree_any, Bool.not_not]
        symm
        rw [List.any_eq_false]
        intro o ho
        obtain ⟨q, hq⟩ := List.getElem?_of_mem ho
        have hql := (List.getElem?_eq_some_iff.1 hq).1
        have h1 := hps.length
        have h2 := HL.out
        rcases hno.out q o (by omega) hq with rfl | hne
        · rw [HK.out] at hq
          cases hq
          simp only [beq_iff_eq]
          exact fun he => hm he.symm
        · simpa using hne)
      go_wp2
      go_ret
      exact ⟨ret_bool HF.out, rfl⟩

theorem lit_push {w wn w6 : World} {lo nl cl c6 : Nat} {al a6 : Option Addr} {left : List Hd} {ys : List Int} {o2 : Obj} (hb : Below lo w wn) (hlo : lo ≤ wn.heap.size) (hm : MatMine wn lo al nl cl left) (hnd : (blocks left).Nodup) (hys : ys.length ≤ maxLen)
    (hown : w6.ownsRow lo 22 1 (.slice a6 (nl + 1) c6) (nl + 1) (left.map Hd.val ++ [.slice (some ⟨wn.heap.size, 0, none⟩) ys.length ys.length]))
    (hg : ((wn.alloc (.cells (ys.map (Value.int .i64)).toArray 3)).alloc o2).grownBy w6 (Value.slice al nl cl).ownBlock) :
    MatMine w6 lo a6 (nl + 1) c6 (left ++ [⟨some ⟨wn.heap.size, 0, none⟩, ys.length, ys⟩]) ∧ (blocks (left ++ [⟨some ⟨wn.heap.size, 0, none⟩, ys.length, ys⟩])).Nodup ∧ Below lo w w6 := by
  have hma := (hm.alloc (.cells (ys.map (Value.int .i64)).toArray 3)).alloc o2
  have hr : ((wn.alloc (.cells (ys.map (Value.int .i64)).toArray 3)).alloc o2).ownsRow lo 3 1 (Hd.val ⟨some ⟨wn.heap.size, 0, none⟩, ys.length, ys⟩) ys.length (ys.map (Value.int .i64)) := (own_lit wn lo ys hlo hys).alloc o2
  refine ⟨mine_push hma hr hown hg, blocks_snoc (N := wn.heap.size) hnd (fun x hx k hk => ((hm.rows x hx).lt k hk).2) (fun k hk => ?_), ((hb.alloc hlo _).alloc (by simp; omega) _).grown hg (by simp; omega) (fun k hk => (hma.own.lt k hk).1)⟩
  cases hk
  exact Nat.le_refl _

set_option maxRecDepth 4000 in
set_option maxHeartbeats 4000000 in
theorem l14Order_any (a : Option Addr) (len cap : Nat) (rows : List Hd) (spare : Int) (w : World) (hin : MatRd w a len rows) (hl3 : len ≤ 300) (hm : ∀ r ∈ rows, isMove r.xs = true) (hinv : OrdInv spare (pairs (rows.map Hd.xs))) :
    Calls Try.prog 58 #[.slice a len cap, .int .i64 spare] w fun e w' => RetMat w ((ordRes spare (pairs (rows.map Hd.xs))).map enc) (ordRes spare (pairs (rows.map Hd.xs))).length e w' := by
  have HM := Lib.hid hm
  have HL := Lib.hid hin.length
  obtain ⟨ps0, hps0⟩ : ∃ ps0, ps0 = pairs (rows.map Hd.xs) := ⟨_, rfl⟩
  rw [← hps0] at hinv ⊢
  have HPS := Lib.hid hps0
  have HINV := Lib.hid hinv
  have hm0 := mine_empty w w.heap.size (Nat.le_refl _)
  have hb0 : Below w.heap.size w (w.alloc (.cells #[] 22)) := (Below.refl _ _).alloc (Nat.le_refl _) _
  clear hm hps0 hinv
  go_enter Try.func58, Try.ntmps58
  go_wp2
  go_loopw [5, 6] (fun l i wr => ∃ (k nl cl : Nat) (al : Option Addr) (left : List Hd), k ≤ len ∧ i = .int .i64 k ∧ l = .slice al nl cl ∧ MatMine wr w.heap.size al nl cl left ∧ (blocks left).Nodup ∧ nl ≤ k ∧ Hid (RowsAre left (pairs ((rows.take k).map Hd.xs))) ∧ Below w.heap.size w wr) (fun _ i _ => len - (intOf i).toNat)
  case atStart => exact ⟨0, 0, 0, _, [], Nat.zero_le _, rfl, rfl, hm0, by simp [blocks], Nat.le_refl _, Lib.hid rfl, hb0⟩
  case round =>
    obtain ⟨k, nl, cl, al, left, hk, rfl, rfl, hm, hnd, hnl, hps, hbr⟩ := hrel
    clear hm0 hb0
    by_cases hlt : k < len
    · obtain ⟨b, off, ai, ci, xs, rfl, hx, hc, hi⟩ := (hin.later hbr).place hlt
      obtain ⟨i, j, hij, hi9, hj9⟩ := isMove_cases (HM.out _ (List.mem_of_getElem? hx))
      simp only at hij
      subst hij
      obtain ⟨bm, om, rfl, hd0, hd1⟩ := two_cells hi
      have HT := Lib.hid (take_succ_of hx)
      clear hx
      by_cases hne : i = j
      · subst hne
        have hd : ((i : Int) != (i : Int)) = false := by simp
        go_wp2
        go_quiet (fail)
        go_wp2
        go_roundw
        case rel =>
          refine ⟨k + 1, nl, cl, al, left, by omega, by go_num, rfl, ⟨hm.own, hm.rows⟩, hnd, by omega, Lib.hid ?_, below_drewN hbr nq⟩
          rw [HT.out, List.map_append]
          show RowsAre left (pairs ((rows.take k).map Hd.xs ++ [[(i : Int), (i : Int)]]))
          rw [pairs_snoc, if_neg (by simp), List.append_nil]
          exact hps.out
        case measure => simp [intOf]; omega
      · have hd : ((i : Int) != (j : Int)) = true := by simp; omega
        go_wp2
        go_quiet (fail)
        go_wp2
        have hone : ∀ n, RowAt (((wr.drewN n).alloc (.cells #[.int .i64 i, .int .i64 j] 3)).alloc (.cells #[.slice (some ⟨wr.heap.size, 0, none⟩) 2 2] 22)) (some ⟨wr.heap.size + 1, 0, none⟩) [.slice (some ⟨wr.heap.size, 0, none⟩) 2 2] := by
          intro n
          have h1 := rowAt_one ((wr.drewN n).alloc (.cells #[.int .i64 i, .int .i64 j] 3)) (.slice (some ⟨wr.heap.size, 0, none⟩) 2 2) 22
          rw [World.size_alloc] at h1
          exact h1
        have hmn : ∀ n, MatMine (wr.drewN n) w.heap.size al nl cl left := fun n => ⟨hm.own, hm.rows⟩
        have hbn : ∀ n, Below w.heap.size w (wr.drewN n) := fun n => below_drewN hbr n
        have HONE := Lib.hid hone
        clear hone
        go_region_law ((refine step_app_row rfl (.tmp 31) (.tmp 45) rfl w.heap.size _ nl _ rfl (((hmn _).own.alloc _).alloc _) _ _ _ rfl (HONE.out _) rfl (by omega) (by have := hbr.size; simp; omega) ?_; intro a6 c6 w6 hown6 hg6 hlies6; have HP6 := Lib.hid (lit_push (ys := [(i : Int), (j : Int)]) (hbn _) hbr.size (hmn _) hnd (by show 2 ≤ maxLen; unfold maxLen; omega) hown6 hg6)))
        go_wp2
        all_goals go_roundw
        all_goals first
          | (simp [intOf]; omega; done)
          | (refine ⟨k + 1, nl + 1, _, _, left ++ [⟨some ⟨wr.heap.size, 0, none⟩, 2, [(i : Int), (j : Int)]⟩], by omega, by go_num, rfl, HP6.out.1, HP6.out.2.1, by omega, Lib.hid ?_, HP6.out.2.2⟩
             rw [HT.out, List.map_append]
             show RowsAre _ (pairs ((rows.take k).map Hd.xs ++ [[(i : Int), (j : Int)]]))
             rw [pairs_snoc, if_pos (by simp; omega)]
             exact rowsAre_snoc hps.out rfl)
    · obtain rfl : k = len := by omega
      rw [List.take_of_length_le (by have := HL.out; omega)] at hps
      have hl0 : ps0.length ≤ 300 := by
        rw [HPS.out]
        have h1 := pairs_length (rows.map Hd.xs)
        have h2 := HL.out
        rw [List.length_map] at h1
        omega
      rw [← HPS.out] at hps
      have hst : Hid (RowsAre left ps0 ∧ RowsAre [] [] ∧ OrdInv spare ps0 ∧ ordMeas ps0 ≤ 2 * ps0.length + 1 ∧ ordEnd spare (2 * ps0.length + 1) ps0 [] = ordRes spare ps0) := Lib.hid ⟨hps.out, rfl, HINV.out, ordMeas_le _, rfl⟩
      have hba := hbr.alloc hbr.size (.cells #[] 31)
      have hlo0 := hbr.size
      have hor : Ord (wr.alloc (.cells #[] 22)) w.heap.size al nl cl left (some ⟨wr.heap.size, 0, none⟩) 0 0 [] :=
        ⟨hm.alloc _, ⟨own_empty wr w.heap.size 22 1 hbr.size, by simp⟩, by intro q hq hq'; cases hq'; exact Nat.lt_irrefl _ (hm.own.lt _ hq).2, by simpa using hnd⟩
      have hba : Below w.heap.size w (wr.alloc (.cells #[] 22)) := hbr.alloc hbr.size _
      clear hin hps hm hnd hbr
      go_wp2
      go_loopg [5, 7] (2 * ps0.length + 1) (fun F l o wr => ∃ (nl cl no co : Nat) (al ao : Option Addr) (left out : List Hd) (ps qs : List (Int × Int)), l = .slice al nl cl ∧ o = .slice ao no co ∧ Ord wr w.heap.size al nl cl left ao no co out ∧ Hid (RowsAre left ps ∧ RowsAre out qs ∧ OrdInv spare ps ∧ ordMeas ps ≤ F ∧ ordEnd spare F ps qs = ordRes spare ps0) ∧ nl ≤ 300 ∧ no + F ≤ 601 ∧ Below w.heap.size w wr)
      case atStart => exact ⟨nl, cl, 0, 0, al, _, left, [], ps0, [], rfl, rfl, hor, hst, by omega, by omega, hba⟩
      case round =>
        obtain ⟨nl, cl, no, co, al, ao, left, out, ps, qs, rfl, rfl, hor, hst, hnl, hno, hbr⟩ := hrel
        clear hlt hl0
        by_cases hz : nl = 0
        · subst hz
          go_wp2
          go_ret
          exact ret_mat_of_ord hor hst.out.1 hst.out.2.1 hst.out.2.2.2.2 hbr
        · have hz' : 0 < nl := by omega
          clear hz
          obtain ⟨F, hF, hmeas, hend, hinv⟩ := ord_round (out := qs) (R := ordRes spare ps0) (F := gk) (by
            intro he
            have h1 := hst.out.1.length
            have h2 := hor.L.at.length
            rw [he] at h1
            simp at h1
            rw [h1] at h2
            simp at h2
            omega) hst.out.2.2.1 hst.out.2.2.2.1 hst.out.2.2.2.2
          have HB1 := Lib.hid (And.intro hmeas (And.intro hend hinv))
          have hnps : nl = ps.length := by rw [← hst.out.1.length]; exact hor.L.at.length.symm
          have HNP := Lib.hid hnps
          have hmrd := hor.L.at.toMatRd
          have hlo := hbr.size
          clear hmeas hend hinv hnps
          go_wp2
          obtain ⟨wo, hwo⟩ : ∃ wo : World, wo = wr := ⟨_, rfl⟩
          subst hwo
          go_loop [8] (fun i => ∃ k : Nat, k ≤ nl ∧ i = .int .i64 k ∧ Hid (∀ j x, j < k → ps[j]? = some x → isFree ps x = false)) (fun i => nl - (intOf i).toNat)
          case atStart => exact ⟨0, Nat.zero_le _, rfl, Lib.hid (fun j x hj => by omega)⟩
          case round =>
            obtain ⟨k, hk, rfl, hnf⟩ := hrel
            by_cases hkn : k < nl
            · obtain ⟨g, ai, ci, xs, rfl, hx, hcg, hfg, hgl, hrown⟩ := mine_place hor.L hkn
              obtain ⟨m, hm0, hxe⟩ := hst.out.1.get hx
              simp only at hxe
              subst hxe
              have hmi := hst.out.2.2.1 m (List.mem_of_getElem? hm0)
              have hfrom := l14From_any (some ⟨g, 0, none⟩) nl cl left ps m k wo hmrd (by omega) hst.out.1 hm0 hmi.1
              obtain ⟨m1, m2⟩ := m
              have HM0 := Lib.hid hm0
              have HX := Lib.hid hx
              rw [show (enc (m1, m2)).length = 2 from rfl] at hcg
              have hri := (ints_of_own hrown).toIntsRd
              obtain ⟨bm, om, rfl, hd0, hd1⟩ := two_cells (x := m1) (y := m2) hri
              have HFR := Lib.hid hfrom
              clear hfrom hx hm0 hmi hri hrown hfg
              by_cases hfr : isFree ps (m1, m2) = true
              · have HF := Lib.hid hfr
                clear hfr
                go_wp2_with fail
                refine HFR.out.mono ?_
                rw [HF.out]
                rintro e w5 ⟨rfl, rfl⟩
                have HK := Lib.hid (freeAt_of HM0.out HF.out hnf.out)
                have hcl := (own_cap hor.L.own).1
                have hkc : k ≤ cl := by omega
                have hkn1 : k + 1 ≤ nl := hkn
                have hkz : (0 : Int) ≤ (k : Int) + 1 := by omega
                have hki : (k : Int) + 1 ≤ (nl : Int) := by omega
                have HE : Hid ((left.map Hd.val).take k ++ (left.map Hd.val).drop (k + 1) = (left.eraseIdx k).map Hd.val) := Lib.hid (by rw [List.eraseIdx_eq_take_drop_succ, List.map_append, List.map_take, List.map_drop])
                have HN1 : Hid (k + (nl - (k + 1)) = nl - 1) := Lib.hid (by omega)
                have HLL : Hid (left.length = nl) := Lib.hid hmrd.length
                have hw1 : IntKind.i64.wrap ((k : Int) + 1) = (k : Int) + 1 := IntWalk.i64_in _ (by omega)
                have hw2 : ((k : Int) + 1).toNat = k + 1 := by omega
                clear hmrd HFR
                go_wp2_with (at_builtin; refine app_row rfl (.tmp 72) (.tmp 77) rfl w.heap.size _ no _ rfl (hor.O.own.alloc _) _ _ _ rfl (rowAt_one _ _ _) rfl (by omega) (by simp; omega) ?_; intro a6 c6 w6 hown6 hg6 hlies6; have HM6 := Lib.hid (ord_out hbr (Nat.le_refl _) hor HX.out hown6 hg6 hlies6); clear hown6 hg6 hlies6)
                have hrow6 : RowAt w6 (some ⟨g, 0, none⟩) ((left.map Hd.val).take k) := (rowAt_of_own HM6.out.1.own).pre k
                have hcut6 := (rowAt_of_own HM6.out.1.own).cut (k + 1) cl (by have := HLL.out; simp; omega)
                simp only [Nat.zero_add] at hcut6
                have HR6 := Lib.hid hrow6
                have HC6 := Lib.hid hcut6
                clear hrow6 hcut6
                go_region_law (first
                  | (refine step_app_rows rfl (.tmp 79) (.tmp 82) rfl w6.heap.size _ 0 [] rfl (own_empty _ w6.heap.size _ 1 (Nat.le_refl _)) _ k _ _ rfl (by have := HLL.out; simp; omega) (HR6.out.later ((Below.refl _ _).drew.alloc (Nat.le_refl _) _)) (by rintro ⟨⟩) (by intro u hu; obtain ⟨r, _, rfl⟩ := List.mem_map.1 (List.mem_of_mem_take hu); rfl) (by omega) (by simp) ?_; intro a7 c7 w7 hown7 hg7 hlies7; have hb7 : Below w6.heap.size w6 w7 := ((Below.refl w6.heap.size w6).drew.alloc (Nat.le_refl _) _).grown hg7 (by simp) (fun q hq => ((own_empty w6 w6.heap.size 22 1 (Nat.le_refl _)).lt q hq).1); simp only [Nat.zero_add, List.nil_append] at hown7; clear hg7 hlies7)
                  | (refine step_app_rows rfl (.tmp 83) (.tmp 87) rfl w6.heap.size _ k _ rfl hown7 _ (nl - (k + 1)) _ _ rfl (by have := HLL.out; simp; omega) (HC6.out.later hb7) (by split <;> rintro ⟨⟩) (by intro u hu; obtain ⟨r, _, rfl⟩ := List.mem_map.1 (List.mem_of_mem_drop hu); rfl) (by omega) hb7.size ?_; intro a8 c8 w8 hown8 hg8 hlies8; have hb8 : Below w6.heap.size w6 w8 := hb7.grown hg8 hb7.size (fun q hq => (hown7.lt q hq).1); rw [HE.out, HN1.out] at hown8; rw [HN1.out]))
                have HOC := Lib.hid (ord_cut HM6.out.2.2.1 HM6.out.2.2.1.size HM6.out.1 HM6.out.2.1 HM6.out.2.2.2 hb8 hown8)
                clear hb7 hown7 hb8 hown8 hw1 hw2
                go_wp2
                all_goals go_roundg F
                all_goals first
                  | (omega; done)
                  | (have hs1 := HB1.out
                     rw [ordStep_some HK.out HM0.out] at hs1
                     exact ⟨nl - 1, c8, no + 1, c6, a8, a6, left.eraseIdx k, out ++ [⟨some ⟨bm, om, none⟩, ci, enc (m1, m2)⟩], _, _, rfl, rfl, HOC.out.1, Lib.hid ⟨rowsAre_erase hst.out.1 k, rowsAre_snoc hst.out.2.1 rfl, hs1.2.2, hs1.1, hs1.2.1⟩, by omega, by omega, HOC.out.2⟩)
              · have hfr' : isFree ps (m1, m2) = false := by simpa using hfr
                have HF := Lib.hid hfr'
                clear hfr hfr'
                go_wp2_with fail
                refine HFR.out.mono ?_
                rw [HF.out]
                rintro e w5 ⟨rfl, rfl⟩
                go_wp2
                go_round
                case rel =>
                  refine ⟨k + 1, by omega, by go_num, Lib.hid (fun j x hj hjx => ?_)⟩
                  by_cases hjk : j = k
                  · subst hjk
                    rw [HM0.out] at hjx
                    cases hjx
                    exact HF.out
                  · exact hnf.out j x (by omega) hjx
                case measure => simp [intOf]; omega
            · obtain rfl : k = nl := by omega
              have HK := Lib.hid (freeAt_of_none (ps := ps) (fun j x hjx => hnf.out j x (by have := (List.getElem?_eq_some_iff.1 hjx).1; have := HNP.out; omega) hjx))
              obtain ⟨g, ai, ci, xs, rfl, hx, hcg, hfg, hgl, hrown⟩ := mine_place hor.L hz'
              obtain ⟨m, hm0, hxe⟩ := hst.out.1.get hx
              simp only at hxe
              subst hxe
              obtain ⟨m1, m2⟩ := m
              have HM0 := Lib.hid hm0
              rw [show (enc (m1, m2)).length = 2 from rfl] at hcg
              have hri := (ints_of_own hrown).toIntsRd
              obtain ⟨bm, om, rfl, hd0, hd1⟩ := two_cells (x := m1) (y := m2) hri
              clear hx hm0 hri hrown hfg
              have hone := rowAt_one (wo.alloc (.cells #[.int .i64 spare, .int .i64 m1] 3)) (.slice (some ⟨wo.heap.size, 0, none⟩) 2 2) 22
              rw [World.size_alloc] at hone
              go_wp2_with (at_builtin; refine app_row rfl (.tmp 94) (.tmp 98) rfl w.heap.size _ no _ rfl ((hor.O.own.alloc _).alloc _) _ _ _ rfl hone rfl (by omega) (by simp; omega) ?_; intro a6 c6 w6 hown6 hg6 hlies6; have HM6 := Lib.hid (ord_spill' (ys := [spare, m1]) hbr (Nat.le_refl _) hlo hor (by show 2 ≤ maxLen; unfold maxLen; omega) hown6 hg6 hlies6); clear hown6 hg6 hlies6)
              have hs1 := HB1.out
              rw [ordStep_none HK.out HM0.out] at hs1
              have HS1 := Lib.hid hs1
              clear hone hs1 HB1 HK HM0 hor hmrd hbr hcg hd0 hd1
              go_loopw [10] (fun i wx => ∃ (q : Nat) (leftq : List Hd), q ≤ k ∧ i = .int .i64 q ∧ Ord wx w.heap.size (some ⟨g, 0, none⟩) k cl leftq a6 (no + 1) c6 (out ++ [⟨some ⟨wo.heap.size, 0, none⟩, 2, [spare, m1]⟩]) ∧ Hid (RowsAre leftq ((ps.take q).map (swapTo spare m1) ++ ps.drop q)) ∧ Below w.heap.size w wx) (fun i _ => k - (intOf i).toNat)
              case atStart => exact ⟨0, left, Nat.zero_le _, rfl, HM6.out.1, Lib.hid hst.out.1, HM6.out.2⟩
              case round =>
                obtain ⟨q, leftq, hq, rfl, horq, hrq, hbq⟩ := hrel
                by_cases hltq : q < k
                · obtain ⟨g', aq, cq, xq, hgg, hxq, hcq, _, _, hrownq⟩ := mine_place horq.L hltq
                  obtain rfl : g = g' := by simpa using hgg
                  obtain ⟨mq, hmq⟩ : ∃ mq, ps[q]? = some mq := ⟨_, List.getElem?_eq_getElem (by have := HNP.out; omega)⟩
                  obtain ⟨mq', hmq', hxe⟩ := hrq.out.get hxq
                  obtain rfl : mq = mq' := by
                    rw [turn_get _ _ hmq] at hmq'
                    exact Option.some.inj hmq'
                  simp only at hxe
                  subst hxe
                  obtain ⟨x, y⟩ := mq
                  obtain ⟨gr, rfl, hc1, hf1, _⟩ := own_cell (xs := enc (x, y)) hrownq (i := 1) (by show 1 < 2; omega)
                  have hc1' : wr.cell? ⟨gr, 1, none⟩ = some (.int .i64 y) := hc1
                  have HXQ := Lib.hid hxq
                  have HMQ := Lib.hid hmq
                  clear hxq hmq hmq' hgg hc1 hrownq
                  have hl2 : (enc (x, y)).length = 2 := rfl
                  rw [hl2] at hcq
                  clear hl2
                  by_cases hy : y = m1
                  · subst hy
                    have hd : (y == y) = true := by simp
                    have HT := Lib.hid (ord_turned' hbq (Nat.le_refl _) horq HXQ.out spare)
                    go_wp2
                    go_roundw
                    case rel =>
                      refine ⟨q + 1, _, by omega, by go_num, HT.out.1, Lib.hid ?_, HT.out.2⟩
                      rw [turn_list _ _ HMQ.out]
                      exact rowsAre_set hrq.out q (by rw [swapTo, if_pos rfl]; rfl)
                    case measure => simp [intOf]; omega
                  · have hd : (y == m1) = false := by simpa using hy
                    go_wp2
                    go_roundw
                    case rel =>
                      refine ⟨q + 1, leftq, by omega, by go_num, horq, Lib.hid ?_, hbq⟩
                      rw [turn_list _ _ HMQ.out, swapTo, if_neg hy]
                      have h1 := hrq.out
                      have h2 := turn_get (swapTo spare m1) ps HMQ.out
                      rw [set_same h2]
                      exact h1
                    case measure => simp [intOf]; omega
                · obtain rfl : q = k := by omega
                  go_wp2
                  go_roundg F
                  case measure => omega
                  case rel =>
                    have h1 := hrq.out
                    rw [List.take_of_length_le (by have := HNP.out; omega), List.drop_of_length_le (by have := HNP.out; omega), List.append_nil] at h1
                    exact ⟨q, cl, no + 1, c6, _, a6, leftq, _, _, _, rfl, rfl, horq, Lib.hid ⟨h1, rowsAre_snoc hst.out.2.1 rfl, HS1.out.2.2, HS1.out.1, HS1.out.2.1⟩, by omega, by omega, hbq⟩

end Go.Proofs.Ythadaohnanpmiaa
