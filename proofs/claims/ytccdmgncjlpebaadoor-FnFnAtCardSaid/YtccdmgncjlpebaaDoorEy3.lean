/-
  Expressions: the program's exprSize, with names: the walk (printed by mkey3.py).
-/
import Derived.Test.YtccdmgncjlpebaaDoorNmLays
import Derived.Test.YtccdmgncjlpebaaDoorNm

namespace Go.Proofs.YtccdmgncjlpebaaDoor
open Go.RowKit

set_option maxRecDepth 100000 in
set_option maxHeartbeats 8000000 in
theorem exprSizeN_step (m d : Nat) (cs : List Value) (x : ExprD) (w : World) (hm : m ≤ 6) (hO : OpsAt w) (hK : KeysAt w) (hx : ExprAt d w cs x)
    (hih : ∀ m', m = m' + 1 → ∀ (d : Nat) (cs : List Value) (x : ExprD) (w : World), OpsAt w → KeysAt w → ExprAt d w cs x →
      Calls Tryd.prog 54 #[.agg cs.toArray, .int .i64 (m' : Int)] w fun e w' => SizeRes nameD m' x e ∧ Below w.heap.size w w') :
    Calls Tryd.prog 54 #[.agg cs.toArray, .int .i64 (m : Int)] w fun e w' => SizeRes nameD m x e ∧ Below w.heap.size w w' := by
  cases d with
  | zero => exact hx.elim
  | succ d =>
  obtain ⟨op, n, name, kids⟩ := x
  obtain ⟨ka, kc, rfl, ⟨hkl, hop⟩, hks⟩ := hx
  simp only [ExprD.op, ExprD.n, ExprD.name, ExprD.kids] at hkl hop hks ⊢
  show Calls _ _ #[.agg #[.int .i64 op, .int .i64 n, .string name, .slice ka kids.length kc], _] w _
  have hba : Below w.heap.size w (w.alloc (.cells #[.int .i64 op, .int .i64 n, .string name, .slice ka kids.length kc] 54)) := (Below.refl _ _).alloc (Nat.le_refl _) _
  have hrow := heap_alloc_new w (.cells #[.int .i64 op, .int .i64 n, .string name, .slice ka kids.length kc] 54)
  have e0 := cell_of_row _ _ 0 _ _ _ hrow
  have e1 := cell_of_row _ _ 1 _ _ _ hrow
  have e2 := cell_of_row _ _ 2 _ _ _ hrow
  have e3 := cell_of_row _ _ 3 _ _ _ hrow
  simp only [List.getElem?_toArray, List.getElem?_cons_zero, List.getElem?_cons_succ] at e0 e1 e2 e3
  have HB := Lib.hid hba
  have HK := Lib.hid (And.intro (hks.later (exprAt_lasts d) hba) (hK.later hba))
  have HNM := Lib.hid (fun W h => isNameI_any name W h)
  have HOP := Lib.hid (hO.later hba)
  have hO2 := hO.later hba
  obtain ⟨bm, o, c1, hbm, hlk⟩ := hO2
  have HH := Lib.hid (fun (h : headB nameD op n name kids.length = false) => show sizeD nameD m (ExprD.mk op n name kids) = none from sizeD_head h)
  clear hba hrow hks hO hK
  go_enter Tryd.func54, Tryd.ntmps54
  go_upto_region 1 with fail
  obtain ⟨b, hb⟩ : ∃ b, b = w.heap.size := ⟨_, rfl⟩
  generalize w.alloc (.cells #[.int .i64 op, .int .i64 n, .string name, .slice ka kids.length kc] 54) = W1 at HB HK HOP e0 e1 e2 e3 c1 hbm ⊢
  rw [← hb] at e0 e1 e2 e3 ⊢
  clear hb
  obtain ⟨sg, hl1⟩ := hlk W1 hbm op hop
  have hfl := field_lvl sg (lvl op) W1
  clear hlk hbm
  go_upto_block 0 with fail
  go_cut [7, 8] (fun lo hi wx => Hid (Below W1.heap.size W1 wx) ∧ ∃ l h : Nat, lo = .int .i64 l ∧ hi = .int .i64 h ∧ l ≤ 3 ∧ h ≤ 3 ∧ Hid (PreB nameD op n name kids.length l h))
  case first =>
    by_cases h1 : op = 1
    · subst h1
      cases hby : inE 0 n 255 with
      | false =>
        have HN := Lib.hid (HH.out (by rw [headB, if_pos rfl, hby]; rfl))
        go_wp2_with fail
        refine (isByteE_is hby _).mono ?_
        rintro e w2 ⟨rfl, rfl⟩
        clear hby
        go_wp2
        refine bodyPost_ret (results_tmp3 rfl _ _ _) rfl ?_
        exact ⟨sizeRes_none HN.out, HB.out⟩
      | true =>
        cases hem : name.toList.isEmpty with
        | false =>
          have HN := Lib.hid (HH.out (by rw [headB, if_pos rfl, hby, hem]; rfl))
          go_wp2_with fail
          refine (isByteE_is hby _).mono ?_
          rintro e w2 ⟨rfl, rfl⟩
          clear hby
          go_wp2
          refine bodyPost_ret (results_tmp3 rfl _ _ _) rfl ?_
          exact ⟨sizeRes_none HN.out, HB.out⟩
        | true =>
          have HP := Lib.hid (show PreB nameD 1 n name kids.length 0 0 by
            rw [PreB, headB, if_pos rfl, hby, hem, if_neg (by decide), Bool.true_and, Bool.true_and, Bool.true_and, inE]
            cases kids <;> simp)
          go_wp2_with fail
          refine (isByteE_is hby _).mono ?_
          rintro e w2 ⟨rfl, rfl⟩
          clear hby
          go_wp2
          go_meet
          exact ⟨Lib.hid (Below.refl _ _), 0, 0, rfl, rfl, by omega, by omega, HP⟩
    · have o1 : (op == 1) = false := by simpa using h1
      by_cases h2 : op = 2
      · subst h2
        cases hnm : nameD name with
        | false =>
          have HN := Lib.hid (HH.out (by rw [headB, if_neg (by decide), if_pos rfl, hnm]; rfl))
          have HQ := Lib.hid (HNM.out W1 HK.out.2)
          rw [hnm] at HQ
          clear hnm h1 o1 hl1 hfl
          go_wp2_with fail
          refine HQ.out.mono ?_
          rintro e w2 ⟨rfl, hb2⟩
          have HE := Lib.hid (HB.out.trans (hb2.mono HB.out.size))
          clear hb2
          go_wp2
          refine bodyPost_ret (results_tmp3 rfl _ _ _) rfl ?_
          exact ⟨sizeRes_none HN.out, HE.out⟩
        | true =>
          have HQ := Lib.hid (HNM.out W1 HK.out.2)
          rw [hnm] at HQ
          by_cases hn0 : n = 0
          · have HP := Lib.hid (show PreB nameD 2 n name kids.length 0 0 by
            rw [PreB, headB, if_neg (by decide), if_pos rfl, hnm, hn0, if_neg (by decide), inE]
            cases kids <;> simp)
            have hnn : (n != 0) = false := by simp [hn0]
            clear hnm h1 o1 hl1 hfl hn0
            go_wp2_with fail
            refine HQ.out.mono ?_
            rintro e w2 ⟨rfl, hb2⟩
            have HE := Lib.hid hb2
            have e1 := cell_later hb2 e1
            clear hb2
            go_wp2
            go_meet
            exact ⟨HE, 0, 0, rfl, rfl, by omega, by omega, HP⟩
          · have HN := Lib.hid (HH.out (by rw [headB, if_neg (by decide), if_pos rfl, show (n == 0) = false by simp [hn0]]; simp))
            have hnn : (n != 0) = true := by simp [hn0]
            clear hnm h1 o1 hl1 hfl hn0
            go_wp2_with fail
            refine HQ.out.mono ?_
            rintro e w2 ⟨rfl, hb2⟩
            have HE := Lib.hid (HB.out.trans (hb2.mono HB.out.size))
            have e1 := cell_later hb2 e1
            clear hb2
            go_wp2
            refine bodyPost_ret (results_tmp3 rfl _ _ _) rfl ?_
            exact ⟨sizeRes_none HN.out, HE.out⟩
      · have n2 : (op == 2) = false := by simpa using h2
        by_cases h13 : op = 13
        · subst h13
          cases hnm : nameD name with
          | false =>
            have HN := Lib.hid (HH.out (by rw [headB, if_neg (by decide), if_neg (by decide), if_pos rfl, hnm]; rfl))
            have HQ := Lib.hid (HNM.out W1 HK.out.2)
            rw [hnm] at HQ
            clear hnm h1 o1 hl1 hfl
            go_wp2_with fail
            refine HQ.out.mono ?_
            rintro e w2 ⟨rfl, hb2⟩
            have HE := Lib.hid (HB.out.trans (hb2.mono HB.out.size))
            clear hb2
            go_wp2
            refine bodyPost_ret (results_tmp3 rfl _ _ _) rfl ?_
            exact ⟨sizeRes_none HN.out, HE.out⟩
          | true =>
            have HQ := Lib.hid (HNM.out W1 HK.out.2)
            rw [hnm] at HQ
            by_cases hn0 : n = 0
            · have HP := Lib.hid (show PreB nameD 13 n name kids.length 0 3 by
              rw [PreB, headB, if_neg (by decide), if_neg (by decide), if_pos rfl, hnm, hn0, if_neg (by decide), inE]
              by_cases hk : kids.length ≤ 3
              · simp [hk]; omega
              · simp [hk]; omega)
              have hnn : (n != 0) = false := by simp [hn0]
              clear hnm h1 o1 hl1 hfl hn0
              go_wp2_with fail
              refine HQ.out.mono ?_
              rintro e w2 ⟨rfl, hb2⟩
              have HE := Lib.hid hb2
              have e1 := cell_later hb2 e1
              clear hb2
              go_wp2
              go_meet
              exact ⟨HE, 0, 3, rfl, rfl, by omega, by omega, HP⟩
            · have HN := Lib.hid (HH.out (by rw [headB, if_neg (by decide), if_neg (by decide), if_pos rfl, show (n == 0) = false by simp [hn0]]; simp))
              have hnn : (n != 0) = true := by simp [hn0]
              clear hnm h1 o1 hl1 hfl hn0
              go_wp2_with fail
              refine HQ.out.mono ?_
              rintro e w2 ⟨rfl, hb2⟩
              have HE := Lib.hid (HB.out.trans (hb2.mono HB.out.size))
              have e1 := cell_later hb2 e1
              clear hb2
              go_wp2
              refine bodyPost_ret (results_tmp3 rfl _ _ _) rfl ?_
              exact ⟨sizeRes_none HN.out, HE.out⟩
        · have n13 : (op == 13) = false := by simpa using h13
          clear h2 h13
          by_cases hl : 0 < lvl op
          · have HP := Lib.hid (show PreB nameD op n name kids.length 2 2 by
              have hr := lvl_range op
              have h6 : levelI op < 6 := by rw [levelI, if_pos hl]; omega
              rw [PreB, headB, if_neg h1, if_neg (by simpa using n2), if_neg (by simpa using n13), if_pos hl, if_pos h6, Bool.and_assoc, inE]
              congr 2
              by_cases hk : kids.length = 2
              · simp [hk]
              · have : (kids.length == 2) = false := by simpa using hk
                rw [this]
                simp
                omega)
            have hr := lvl_range op
            generalize lvl op = v at hl hr hl1 hfl
            clear h1
            go_wp2
            go_meet
            exact ⟨Lib.hid (Below.refl _ _), 2, 2, rfl, rfl, by omega, by omega, HP⟩
          · have HNL := Lib.hid hl
            by_cases h11 : op = 11
            · subst h11
              have HP := Lib.hid (show PreB nameD 11 n name kids.length 1 1 by
                rw [PreB, headB, if_neg (by decide), if_neg (by decide), if_neg (by decide), if_neg (by decide), if_pos (.inl rfl), if_pos (by decide), Bool.and_assoc, inE]
                congr 2
                by_cases hk : kids.length = 1
                · simp [hk]
                · have : (kids.length == 1) = false := by simpa using hk
                  rw [this]
                  simp
                  omega)
              generalize lvl 11 = v at hl hl1 hfl
              clear h1 o1 n2 n13
              go_wp2
              go_meet
              exact ⟨Lib.hid (Below.refl _ _), 1, 1, rfl, rfl, by omega, by omega, HP⟩
            · by_cases h12 : op = 12
              · subst h12
                have HP := Lib.hid (show PreB nameD 12 n name kids.length 1 1 by
                  rw [PreB, headB, if_neg (by decide), if_neg (by decide), if_neg (by decide), if_neg (by decide), if_pos (.inr rfl), if_pos (by decide), Bool.and_assoc, inE]
                  congr 2
                  by_cases hk : kids.length = 1
                  · simp [hk]
                  · have : (kids.length == 1) = false := by simpa using hk
                    rw [this]
                    simp
                    omega)
                generalize lvl 12 = v at hl hl1 hfl
                clear h1 o1 n2 n13 h11
                go_wp2
                go_meet
                exact ⟨Lib.hid (Below.refl _ _), 1, 1, rfl, rfl, by omega, by omega, HP⟩
              · have o11 : (op == 11) = false := by simpa using h11
                have o12 : (op == 12) = false := by simpa using h12
                have HN := Lib.hid (HH.out (by rw [headB, if_neg h1, if_neg (by simpa using n2), if_neg (by simpa using n13), if_neg hl, if_neg (by simp [h11, h12])]))
                generalize lvl op = v at hl hl1 hfl
                clear h1 h11 h12
                go_wp2
                refine bodyPost_ret (results_tmp3 rfl _ _ _) rfl ?_
                exact ⟨sizeRes_none HN.out, HB.out⟩
  case rest =>
  obtain ⟨HWC, l, h, rfl, rfl, hl3, hh3, HP⟩ := hcut
  have e0 := cell_later HWC.out e0
  have e1 := cell_later HWC.out e1
  have e2 := cell_later HWC.out e2
  have e3 := cell_later HWC.out e3
  have HB := Lib.hid (HB.out.trans (HWC.out.mono HB.out.size))
  have HOP := Lib.hid (HOP.out.later HWC.out)
  have HK := Lib.hid (And.intro (HK.out.1.later (exprAt_lasts d) HWC.out) (HK.out.2.later HWC.out))
  clear hl1 hfl c1 HNM HWC
  go_upto_region 17 with fail
  go_cut [97] (fun s wx => wx = wc ∧ ∃ bad : Bool, s = .bool bad ∧ Hid (bad = !(headB nameD op n name kids.length && decide (1 ≤ m))))
  case first =>
    by_cases h6 : levelI op < 6
    · by_cases hn0 : n = 0
      · cases hem : name.toList.isEmpty with
        | false =>
          have HN := Lib.hid (show true = !(headB nameD op n name kids.length && decide (1 ≤ m)) by rw [HP.out, if_pos h6, hem]; simp)
          have hnn : (n != 0) = false := by simp [hn0]
          have hnn2 : (n == 0) = true := by simp [hn0]
          clear hn0
          go_wp2_with fail
          refine (levelOf_any op _ hop HOP.out).mono ?_
          rintro e w2 ⟨rfl, rfl⟩
          go_wp2
          go_meet
          exact ⟨rfl, _, rfl, HN⟩
        | true =>
          have hnn : (n != 0) = false := by simp [hn0]
          have hnn2 : (n == 0) = true := by simp [hn0]
          clear hn0
          cases hwi : inE l kids.length h with
          | false =>
            have HN := Lib.hid (show true = !(headB nameD op n name kids.length && decide (1 ≤ m)) by rw [HP.out, if_pos h6, hem, hnn2, hwi]; simp)
            go_wp2_with fail
            refine (levelOf_any op _ hop HOP.out).mono ?_
            rintro e w2 ⟨rfl, rfl⟩
            go_wp2_with fail
            refine (withinE_is hwi _).mono ?_
            rintro e w3 ⟨rfl, rfl⟩
            go_wp2
            go_meet
            exact ⟨rfl, _, rfl, HN⟩
          | true =>
            by_cases hm1 : (m : Int) < 1
            · have HN := Lib.hid (show true = !(headB nameD op n name kids.length && decide (1 ≤ m)) by rw [show decide (1 ≤ m) = false from decide_eq_false (by omega)]; simp)
              go_wp2_with fail
              refine (levelOf_any op _ hop HOP.out).mono ?_
              rintro e w2 ⟨rfl, rfl⟩
              go_wp2_with fail
              refine (withinE_is hwi _).mono ?_
              rintro e w3 ⟨rfl, rfl⟩
              go_wp2
              go_meet
              exact ⟨rfl, _, rfl, HN⟩
            · have HM := Lib.hid (show false = !(headB nameD op n name kids.length && decide (1 ≤ m)) by rw [HP.out, if_pos h6, hem, hnn2, hwi, show decide (1 ≤ m) = true from decide_eq_true (by omega)]; simp)
              go_wp2_with fail
              refine (levelOf_any op _ hop HOP.out).mono ?_
              rintro e w2 ⟨rfl, rfl⟩
              go_wp2_with fail
              refine (withinE_is hwi _).mono ?_
              rintro e w3 ⟨rfl, rfl⟩
              go_wp2
              go_meet
              exact ⟨rfl, _, rfl, Lib.hid ((decide_eq_false (by omega)).trans HM.out)⟩
      · have hnn : (n != 0) = true := by simp [hn0]
        have hnn2 : (n == 0) = false := by simp [hn0]
        have HN := Lib.hid (show true = !(headB nameD op n name kids.length && decide (1 ≤ m)) by rw [HP.out, if_pos h6, hnn2]; simp)
        clear hn0
        go_wp2_with fail
        refine (levelOf_any op _ hop HOP.out).mono ?_
        rintro e w2 ⟨rfl, rfl⟩
        go_wp2
        go_meet
        exact ⟨rfl, _, rfl, HN⟩
    · have h6x := h6
      cases hwi : inE l kids.length h with
      | false =>
        have HN := Lib.hid (show true = !(headB nameD op n name kids.length && decide (1 ≤ m)) by rw [HP.out, if_neg h6, hwi]; simp)
        go_wp2_with fail
        refine (levelOf_any op _ hop HOP.out).mono ?_
        rintro e w2 ⟨rfl, rfl⟩
        go_wp2_with fail
        refine (withinE_is hwi _).mono ?_
        rintro e w3 ⟨rfl, rfl⟩
        go_wp2
        go_meet
        exact ⟨rfl, _, rfl, HN⟩
      | true =>
        by_cases hm1 : (m : Int) < 1
        · have HN := Lib.hid (show true = !(headB nameD op n name kids.length && decide (1 ≤ m)) by rw [show decide (1 ≤ m) = false from decide_eq_false (by omega)]; simp)
          go_wp2_with fail
          refine (levelOf_any op _ hop HOP.out).mono ?_
          rintro e w2 ⟨rfl, rfl⟩
          go_wp2_with fail
          refine (withinE_is hwi _).mono ?_
          rintro e w3 ⟨rfl, rfl⟩
          go_wp2
          go_meet
          exact ⟨rfl, _, rfl, HN⟩
        · have HM := Lib.hid (show false = !(headB nameD op n name kids.length && decide (1 ≤ m)) by rw [HP.out, if_neg h6, hwi, show decide (1 ≤ m) = true from decide_eq_true (by omega)]; simp)
          go_wp2_with fail
          refine (levelOf_any op _ hop HOP.out).mono ?_
          rintro e w2 ⟨rfl, rfl⟩
          go_wp2_with fail
          refine (withinE_is hwi _).mono ?_
          rintro e w3 ⟨rfl, rfl⟩
          go_wp2
          go_meet
          exact ⟨rfl, _, rfl, Lib.hid ((decide_eq_false (by omega)).trans HM.out)⟩
  case rest =>
  obtain ⟨hw, bad, rfl, HBD⟩ := hcut
  subst hw
  cases bad with
  | true =>
    have HN := Lib.hid (show sizeD nameD m (ExprD.mk op n name kids) = none by
      have h1 := HBD.out
      cases hh : headB nameD op n name kids.length with
      | false => exact HH.out hh
      | true =>
        rw [hh, Bool.true_and] at h1
        have hm0 : ¬ 1 ≤ m := by simpa using h1
        obtain rfl : m = 0 := by omega
        rfl)
    go_wp2
    refine bodyPost_ret (results_tmp3 rfl _ _ _) rfl ?_
    exact ⟨sizeRes_none HN.out, HB.out⟩
  | false =>
    have h1 := HBD.out
    have hhm : headB nameD op n name kids.length = true ∧ 1 ≤ m := by
      simpa using h1
    obtain ⟨hh, hm1⟩ := hhm
    have hk3 : kids.length ≤ 3 := by
      have h2 := HP.out
      rw [PreB, hh] at h2
      have h3 : inE l kids.length h = true := by
        cases h4 : inE l kids.length h with
        | true => rfl
        | false => rw [h4, Bool.and_false] at h2; cases h2
      simp only [inE, Bool.and_eq_true, decide_eq_true_eq] at h3
      omega
    obtain ⟨m', rfl⟩ : ∃ m', m = m' + 1 := ⟨m - 1, by omega⟩
    have HSZ := Lib.hid (show sizeD nameD (m' + 1) (ExprD.mk op n name kids) = foldSz (sizeD nameD m') kids 1 1 by rw [sizeD]; exact if_pos hh)
    have HIH := Lib.hid (hih m' rfl)
    have HK3 := Lib.hid hk3
    have HM7 := Lib.hid (show m' + 1 ≤ 6 from hm)
    clear hih HH HP HBD h1 hh hm1 hl3 hh3
    go_wp2_with fail
    clear e0 e1 e2 e3
    go_loopg [9, 10, 101] kids.length (fun G pv dv i wr => ∃ j pn dn : Nat, j + G = kids.length ∧ i = .int .i64 j ∧ pv = .int .i64 pn ∧ dv = .int .i64 dn ∧ pn ≤ 1 + 30 * j ∧ dn ≤ 7 ∧ Hid (Below wc.heap.size wc wr ∧ foldSz (sizeD nameD m') kids 1 1 = foldSz (sizeD nameD m') (kids.drop j) pn dn))
    case atStart => exact ⟨0, 1, 1, by omega, rfl, rfl, rfl, by omega, by omega, Lib.hid ⟨Below.refl _ _, rfl⟩⟩
    case round =>
      obtain ⟨j, pn, dn, hj, rfl, rfl, rfl, hpn, hdn, HR⟩ := hrel
      by_cases hlt : j < kids.length
      · obtain ⟨b1, o1, k, cs1, rfl, hk, hkR, k1, k2, rfl, c0, c1, c2, c3⟩ := kid_place (HK.out.1.later (exprAt_lasts d) HR.out.1) hlt
        have hki : (j : Int) < (kids.length : Int) := by omega
        have hba : Below wr.heap.size wr (wr.alloc (.cells #[.int .i64 k.op, .int .i64 k.n, .string k.name, .slice k1 k.kids.length k2] 54)) := (Below.refl _ _).alloc (Nat.le_refl _) _
        have hrow := heap_alloc_new wr (.cells #[.int .i64 k.op, .int .i64 k.n, .string k.name, .slice k1 k.kids.length k2] 54)
        have e0 := cell_of_row _ _ 0 _ _ _ hrow
        have e1 := cell_of_row _ _ 1 _ _ _ hrow
        have e2 := cell_of_row _ _ 2 _ _ _ hrow
        have e3 := cell_of_row _ _ 3 _ _ _ hrow
        simp only [List.getElem?_toArray, List.getElem?_cons_zero, List.getElem?_cons_succ] at e0 e1 e2 e3
        have hdrop : kids.drop j = k :: kids.drop (j + 1) := (List.drop_eq_getElem_cons hlt).trans (by rw [(List.getElem?_eq_some_iff.1 hk).2])
        have HQ := Lib.hid (HIH.out d _ k _ ((HOP.out.later HR.out.1).later hba) ((HK.out.2.later HR.out.1).later hba) ((exprAt_lasts d) _ _ _ _ hba hkR))
        have HD := Lib.hid (And.intro hdrop (HR.out.1.trans (hba.mono HR.out.1.size)))
        clear hba hrow hdrop hk hkR HIH
        go_wp2_with fail
        refine HQ.out.mono ?_
        rintro e w5 ⟨⟨p5, d5, rfl, hq⟩, hb5⟩
        have HE := Lib.hid (HD.out.2.trans (hb5.mono HD.out.2.size))
        clear hb5 c0 c1 c2 c3 e0 e1 e2 e3
        cases hs : sizeD nameD m' k with
        | none =>
          have HN := Lib.hid (show sizeD nameD (m' + 1) (ExprD.mk op n name kids) = none by rw [HSZ.out, HR.out.2, HD.out.1, foldSz, hs])
          clear hs hq
          go_wp2
          refine bodyPost_ret (results_tmp3 rfl _ _ _) rfl ?_
          exact ⟨sizeRes_none HN.out, HB.out.trans (HE.out.mono HB.out.size)⟩
        | some q =>
          obtain ⟨hp, hd⟩ := hq q hs
          have hs1 := sizeD_small hs
          have hs2 := sizeD_deep m' k q hs
          obtain ⟨qp, qd⟩ := q
          simp only at hp hd hs1 hs2
          subst hp
          subst hd
          have HN := Lib.hid (show foldSz (sizeD nameD m') kids 1 1 = foldSz (sizeD nameD m') (kids.drop (j + 1)) (pn + qp) (max dn (qd + 1)) by rw [HR.out.2, HD.out.1, foldSz, hs])
          have hm7 := HM7.out
          clear hs hq
          go_wp2
          all_goals
            go_roundg (gk - 1)
            case measure => omega
            case rel => exact ⟨j + 1, pn + qp, max dn (qd + 1), by omega, by go_num, by go_num, int_eq_of (by omega), by omega, by omega, Lib.hid ⟨HE.out, HN.out⟩⟩
      · obtain rfl : j = kids.length := by omega
        have HF := Lib.hid (show sizeD nameD (m' + 1) (ExprD.mk op n name kids) = if pn ≤ 30 then some (pn, dn) else none by rw [HSZ.out, HR.out.2, List.drop_length, foldSz])
        have hk3 := HK3.out
        go_wp2
        refine bodyPost_ret (results_tmp3 rfl _ _ _) rfl ?_
        refine ⟨⟨pn, dn, ?_, fun q hq => ?_⟩, HB.out.trans (HR.out.1.mono HB.out.size)⟩
        · rw [HF.out]
          by_cases h30 : pn ≤ 30
          · rw [if_pos h30]
            have : decide ((pn : Int) ≤ 30) = true := decide_eq_true (by omega)
            show Ending.returned (.tuple #[_, _, .bool (decide ((pn : Int) ≤ 30))]) = _
            rw [this]
            rfl
          · rw [if_neg h30]
            have : decide ((pn : Int) ≤ 30) = false := decide_eq_false (by omega)
            show Ending.returned (.tuple #[_, _, .bool (decide ((pn : Int) ≤ 30))]) = _
            rw [this]
            rfl
        · rw [HF.out] at hq
          split at hq
          · cases hq; exact ⟨rfl, rfl⟩
          · cases hq

theorem exprSizeN_any : ∀ (m d : Nat) (cs : List Value) (x : ExprD) (w : World), m ≤ 6 → OpsAt w → KeysAt w → ExprAt d w cs x →
    Calls Tryd.prog 54 #[.agg cs.toArray, .int .i64 (m : Int)] w fun e w' => SizeRes nameD m x e ∧ Below w.heap.size w w' := by
  intro m
  induction m with
  | zero => exact fun d cs x w h1 h2 h3 h4 => exprSizeN_step 0 d cs x w h1 h2 h3 h4 (fun m' h => by omega)
  | succ n ih => exact fun d cs x w h1 h2 h3 h4 => exprSizeN_step (n + 1) d cs x w h1 h2 h3 h4 (fun m' h d cs x w => by
      obtain rfl : n = m' := by omega
      exact ih d cs x w (by omega))

end Go.Proofs.YtccdmgncjlpebaaDoor
