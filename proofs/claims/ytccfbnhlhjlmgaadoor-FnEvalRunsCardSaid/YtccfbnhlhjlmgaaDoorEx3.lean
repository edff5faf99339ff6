
/-
  Expressions: the program's exprSize: the walk.
-/
import Derived.Test.YtccfbnhlhjlmgaaDoorEx2
namespace Go.Proofs.YtccfbnhlhjlmgaaDoor
open Go.RowKit

def SizeRes (nameB : ByteArray → Bool) (m : Nat) (x : ExprD) (e : Ending) : Prop :=
  ∃ p d : Int, e = .returned (.tuple #[.int .i64 p, .int .i64 d, .bool (sizeD nameB m x).isSome]) ∧ ∀ q, sizeD nameB m x = some q → p = q.1 ∧ d = q.2
theorem sizeRes_none {nameB : ByteArray → Bool} {m : Nat} {x : ExprD} (h : sizeD nameB m x = none) : SizeRes nameB m x (.returned (.tuple #[.int .i64 0, .int .i64 0, .bool false])) :=
  ⟨0, 0, by rw [h]; rfl, fun q hq => by rw [h] at hq; cases hq⟩
theorem int_eq_of {a b : Int} (h : a = b) : Value.int .i64 a = .int .i64 b := by rw [h]
def namedOp (o : Int) : Bool := o == 2 || o == 13
/-- What the switch leaves. -/
def PreB (nameB : ByteArray → Bool) (op n : Int) (name : ByteArray) (k l h : Nat) : Prop :=
  headB nameB op n name k = ((if levelI op < 6 then n == 0 && name.toList.isEmpty else true) && inE l k h)
theorem lvl_out {op : Int} (h : ¬ 0 < lvl op) : op ≠ 3 ∧ op ≠ 4 ∧ op ≠ 5 ∧ op ≠ 6 ∧ op ≠ 7 ∧ op ≠ 8 ∧ op ≠ 9 ∧ op ≠ 10 := by
  unfold lvl at h
  refine ⟨?_, ?_, ?_, ?_, ?_, ?_, ?_, ?_⟩ <;> rintro rfl <;> exact absurd h (by decide)

set_option maxRecDepth 100000 in
set_option maxHeartbeats 8000000 in
theorem exprSize_step (nameB : ByteArray → Bool) (m d : Nat) (cs : List Value) (x : ExprD) (w : World) (hm : m ≤ 6) (hO : OpsAt w) (hx : ExprAt d w cs x) (hN : anyOp namedOp d x = false)
    (hih : ∀ m', m = m' + 1 → ∀ (d : Nat) (cs : List Value) (x : ExprD) (w : World), OpsAt w → ExprAt d w cs x → anyOp namedOp d x = false →
      Calls Tryd.prog 89 #[.agg cs.toArray, .int .i64 (m' : Int)] w fun e w' => SizeRes nameB m' x e ∧ Below w.heap.size w w') :
    Calls Tryd.prog 89 #[.agg cs.toArray, .int .i64 (m : Int)] w fun e w' => SizeRes nameB m x e ∧ Below w.heap.size w w' := by
  cases d with
  | zero => exact hx.elim
  | succ d =>
  obtain ⟨op, n, name, kids⟩ := x
  obtain ⟨ka, kc, rfl, ⟨hkl, hop⟩, hks⟩ := hx
  simp only [ExprD.op, ExprD.n, ExprD.name, ExprD.kids] at hkl hop hks ⊢
  show Calls _ _ #[.agg #[.int .i64 op, .int .i64 n, .string name, .slice ka kids.length kc], _] w _
  rw [anyOp, Bool.or_eq_false_iff] at hN
  simp only [ExprD.op, ExprD.kids, namedOp, Bool.or_eq_false_iff] at hN
  have hba : Below w.heap.size w (w.alloc (.cells #[.int .i64 op, .int .i64 n, .string name, .slice ka kids.length kc] 29)) := (Below.refl _ _).alloc (Nat.le_refl _) _
  have hrow := heap_alloc_new w (.cells #[.int .i64 op, .int .i64 n, .string name, .slice ka kids.length kc] 29)
  have e0 := cell_of_row _ _ 0 _ _ _ hrow
  have e1 := cell_of_row _ _ 1 _ _ _ hrow
  have e2 := cell_of_row _ _ 2 _ _ _ hrow
  have e3 := cell_of_row _ _ 3 _ _ _ hrow
  simp only [List.getElem?_toArray, List.getElem?_cons_zero, List.getElem?_cons_succ] at e0 e1 e2 e3
  have HB := Lib.hid hba
  have HK := Lib.hid (And.intro (hks.later (exprAt_lasts d) hba) hN.2)
  have HOP := Lib.hid (hO.later hba)
  have hO2 := hO.later hba
  obtain ⟨bm, o, c1, hbm, hlk⟩ := hO2
  have HH := Lib.hid (fun (h : headB nameB op n name kids.length = false) => show sizeD nameB m (ExprD.mk op n name kids) = none from sizeD_head h)
  have n2 := hN.1.1
  have n13 := hN.1.2
  clear hba hrow hks hO hN
  go_enter Tryd.func89, Tryd.ntmps89
  go_upto_region 1 with fail
  obtain ⟨b, hb⟩ : ∃ b, b = w.heap.size := ⟨_, rfl⟩
  generalize w.alloc (.cells #[.int .i64 op, .int .i64 n, .string name, .slice ka kids.length kc] 29) = W1 at HB HK HOP e0 e1 e2 e3 c1 hbm ⊢
  rw [← hb] at e0 e1 e2 e3 ⊢
  clear hb
  obtain ⟨sg, hl1⟩ := hlk W1 hbm op hop
  have hfl := field_lvl sg (lvl op) W1
  clear hlk hbm
  go_upto_block 0 with fail
  go_cut [7, 8] (fun lo hi wx => wx = W1 ∧ ∃ l h : Nat, lo = .int .i64 l ∧ hi = .int .i64 h ∧ l ≤ 3 ∧ h ≤ 3 ∧ Hid (PreB nameB op n name kids.length l h))
  case first =>
    by_cases h1 : op = 1
    · subst h1
      cases hby : inE 0 n 255 with
      | false =>
        have HN := Lib.hid (HH.out (by rw [headB, if_pos rfl, hby]; rfl))
        go_wp2_with fail
        refine (isByteE_is hby _).mono ?_
        rintro e w2 ⟨rfl, rfl⟩
        clear hby
        go_wp2
        refine bodyPost_ret (results_tmp3 rfl _ _ _) rfl ?_
        exact ⟨sizeRes_none HN.out, HB.out⟩
      | true =>
        cases hem : name.toList.isEmpty with
        | false =>
          have HN := Lib.hid (HH.out (by rw [headB, if_pos rfl, hby, hem]; rfl))
          go_wp2_with fail
          refine (isByteE_is hby _).mono ?_
          rintro e w2 ⟨rfl, rfl⟩
          clear hby
          go_wp2
          refine bodyPost_ret (results_tmp3 rfl _ _ _) rfl ?_
          exact ⟨sizeRes_none HN.out, HB.out⟩
        | true =>
          have HP := Lib.hid (show PreB nameB 1 n name kids.length 0 0 by
            rw [PreB, headB, if_pos rfl, hby, hem, if_neg (by decide), Bool.true_and, Bool.true_and, Bool.true_and, inE]
            cases kids <;> simp)
          go_wp2_with fail
          refine (isByteE_is hby _).mono ?_
          rintro e w2 ⟨rfl, rfl⟩
          clear hby
          go_wp2
          go_meet
          exact ⟨rfl, 0, 0, rfl, rfl, by omega, by omega, HP⟩
    · have o1 : (op == 1) = false := by simpa using h1
      by_cases hl : 0 < lvl op
      · have HP := Lib.hid (show PreB nameB op n name kids.length 2 2 by
          have hr := lvl_range op
          have h6 : levelI op < 6 := by rw [levelI, if_pos hl]; omega
          rw [PreB, headB, if_neg h1, if_neg (by simpa using n2), if_neg (by simpa using n13), if_pos hl, if_pos h6, Bool.and_assoc, inE]
          congr 2
          by_cases hk : kids.length = 2
          · simp [hk]
          · have : (kids.length == 2) = false := by simpa using hk
            rw [this]
            simp
            omega)
        have hr := lvl_range op
        generalize lvl op = v at hl hr hl1 hfl
        clear h1
        go_wp2
        go_meet
        exact ⟨rfl, 2, 2, rfl, rfl, by omega, by omega, HP⟩
      · have HNL := Lib.hid hl
        by_cases h11 : op = 11
        · subst h11
          have HP := Lib.hid (show PreB nameB 11 n name kids.length 1 1 by
            rw [PreB, headB, if_neg (by decide), if_neg (by decide), if_neg (by decide), if_neg (by decide), if_pos (.inl rfl), if_pos (by decide), Bool.and_assoc, inE]
            congr 2
            by_cases hk : kids.length = 1
            · simp [hk]
            · have : (kids.length == 1) = false := by simpa using hk
              rw [this]
              simp
              omega)
          generalize lvl 11 = v at hl hl1 hfl
          clear h1 o1 n2 n13
          go_wp2
          go_meet
          exact ⟨rfl, 1, 1, rfl, rfl, by omega, by omega, HP⟩
        · by_cases h12 : op = 12
          · subst h12
            have HP := Lib.hid (show PreB nameB 12 n name kids.length 1 1 by
              rw [PreB, headB, if_neg (by decide), if_neg (by decide), if_neg (by decide), if_neg (by decide), if_pos (.inr rfl), if_pos (by decide), Bool.and_assoc, inE]
              congr 2
              by_cases hk : kids.length = 1
              · simp [hk]
              · have : (kids.length == 1) = false := by simpa using hk
                rw [this]
                simp
                omega)
            generalize lvl 12 = v at hl hl1 hfl
            clear h1 o1 n2 n13 h11
            go_wp2
            go_meet
            exact ⟨rfl, 1, 1, rfl, rfl, by omega, by omega, HP⟩
          · have o11 : (op == 11) = false := by simpa using h11
            have o12 : (op == 12) = false := by simpa using h12
            have HN := Lib.hid (HH.out (by rw [headB, if_neg h1, if_neg (by simpa using n2), if_neg (by simpa using n13), if_neg hl, if_neg (by simp [h11, h12])]))
            generalize lvl op = v at hl hl1 hfl
            clear h1 h11 h12
            go_wp2
            refine bodyPost_ret (results_tmp3 rfl _ _ _) rfl ?_
            exact ⟨sizeRes_none HN.out, HB.out⟩
  case rest =>
  obtain ⟨hw, l, h, rfl, rfl, hl3, hh3, HP⟩ := hcut
  subst hw
  clear n2 n13 hl1 hfl c1
  go_upto_region 17 with fail
  go_cut [97] (fun s wx => wx = wc ∧ ∃ bad : Bool, s = .bool bad ∧ Hid (bad = !(headB nameB op n name kids.length && decide (1 ≤ m))))
  case first =>
    by_cases h6 : levelI op < 6
    · by_cases hn0 : n = 0
      · cases hem : name.toList.isEmpty with
        | false =>
          have HN := Lib.hid (show true = !(headB nameB op n name kids.length && decide (1 ≤ m)) by rw [HP.out, if_pos h6, hem]; simp)
          have hnn : (n != 0) = false := by simp [hn0]
          have hnn2 : (n == 0) = true := by simp [hn0]
          clear hn0
          go_wp2_with fail
          refine (levelOf_any op _ hop HOP.out).mono ?_
          rintro e w2 ⟨rfl, rfl⟩
          go_wp2
          go_meet
          exact ⟨rfl, _, rfl, HN⟩
        | true =>
          have hnn : (n != 0) = false := by simp [hn0]
          have hnn2 : (n == 0) = true := by simp [hn0]
          clear hn0
          cases hwi : inE l kids.length h with
          | false =>
            have HN := Lib.hid (show true = !(headB nameB op n name kids.length && decide (1 ≤ m)) by rw [HP.out, if_pos h6, hem, hnn2, hwi]; simp)
            go_wp2_with fail
            refine (levelOf_any op _ hop HOP.out).mono ?_
            rintro e w2 ⟨rfl, rfl⟩
            go_wp2_with fail
            refine (withinE_is hwi _).mono ?_
            rintro e w3 ⟨rfl, rfl⟩
            go_wp2
            go_meet
            exact ⟨rfl, _, rfl, HN⟩
          | true =>
            by_cases hm1 : (m : Int) < 1
            · have HN := Lib.hid (show true = !(headB nameB op n name kids.length && decide (1 ≤ m)) by rw [show decide (1 ≤ m) = false from decide_eq_false (by omega)]; simp)
              go_wp2_with fail
              refine (levelOf_any op _ hop HOP.out).mono ?_
              rintro e w2 ⟨rfl, rfl⟩
              go_wp2_with fail
              refine (withinE_is hwi _).mono ?_
              rintro e w3 ⟨rfl, rfl⟩
              go_wp2
              go_meet
              exact ⟨rfl, _, rfl, HN⟩
            · have HM := Lib.hid (show false = !(headB nameB op n name kids.length && decide (1 ≤ m)) by rw [HP.out, if_pos h6, hem, hnn2, hwi, show decide (1 ≤ m) = true from decide_eq_true (by omega)]; simp)
              go_wp2_with fail
              refine (levelOf_any op _ hop HOP.out).mono ?_
              rintro e w2 ⟨rfl, rfl⟩
              go_wp2_with fail
              refine (withinE_is hwi _).mono ?_
              rintro e w3 ⟨rfl, rfl⟩
              go_wp2
              go_meet
              exact ⟨rfl, _, rfl, Lib.hid ((decide_eq_false (by omega)).trans HM.out)⟩
      · have hnn : (n != 0) = true := by simp [hn0]
        have hnn2 : (n == 0) = false := by simp [hn0]
        have HN := Lib.hid (show true = !(headB nameB op n name kids.length && decide (1 ≤ m)) by rw [HP.out, if_pos h6, hnn2]; simp)
        clear hn0
        go_wp2_with fail
        refine (levelOf_any op _ hop HOP.out).mono ?_
        rintro e w2 ⟨rfl, rfl⟩
        go_wp2
        go_meet
        exact ⟨rfl, _, rfl, HN⟩
    · have h6x := h6
      cases hwi : inE l kids.length h with
      | false =>
        have HN := Lib.hid (show true = !(headB nameB op n name kids.length && decide (1 ≤ m)) by rw [HP.out, if_neg h6, hwi]; simp)
        go_wp2_with fail
        refine (levelOf_any op _ hop HOP.out).mono ?_
        rintro e w2 ⟨rfl, rfl⟩
        go_wp2_with fail
        refine (withinE_is hwi _).mono ?_
        rintro e w3 ⟨rfl, rfl⟩
        go_wp2
        go_meet
        exact ⟨rfl, _, rfl, HN⟩
      | true =>
        by_cases hm1 : (m : Int) < 1
        · have HN := Lib.hid (show true = !(headB nameB op n name kids.length && decide (1 ≤ m)) by rw [show decide (1 ≤ m) = false from decide_eq_false (by omega)]; simp)
          go_wp2_with fail
          refine (levelOf_any op _ hop HOP.out).mono ?_
          rintro e w2 ⟨rfl, rfl⟩
          go_wp2_with fail
          refine (withinE_is hwi _).mono ?_
          rintro e w3 ⟨rfl, rfl⟩
          go_wp2
          go_meet
          exact ⟨rfl, _, rfl, HN⟩
        · have HM := Lib.hid (show false = !(headB nameB op n name kids.length && decide (1 ≤ m)) by rw [HP.out, if_neg h6, hwi, show decide (1 ≤ m) = true from decide_eq_true (by omega)]; simp)
          go_wp2_with fail
          refine (levelOf_any op _ hop HOP.out).mono ?_
          rintro e w2 ⟨rfl, rfl⟩
          go_wp2_with fail
          refine (withinE_is hwi _).mono ?_
          rintro e w3 ⟨rfl, rfl⟩
          go_wp2
          go_meet
          exact ⟨rfl, _, rfl, Lib.hid ((decide_eq_false (by omega)).trans HM.out)⟩
  case rest =>
  obtain ⟨hw, bad, rfl, HBD⟩ := hcut
  subst hw
  cases bad with
  | true =>
    have HN := Lib.hid (show sizeD nameB m (ExprD.mk op n name kids) = none by
      have h1 := HBD.out
      cases hh : headB nameB op n name kids.length with
      | false => exact HH.out hh
      | true =>
        rw [hh, Bool.true_and] at h1
        have hm0 : ¬ 1 ≤ m := by simpa using h1
        obtain rfl : m = 0 := by omega
        rfl)
    go_wp2
    refine bodyPost_ret (results_tmp3 rfl _ _ _) rfl ?_
    exact ⟨sizeRes_none HN.out, HB.out⟩
  | false =>
    have h1 := HBD.out
    have hhm : headB nameB op n name kids.length = true ∧ 1 ≤ m := by
      simpa using h1
    obtain ⟨hh, hm1⟩ := hhm
    have hk3 : kids.length ≤ 3 := by
      have h2 := HP.out
      rw [PreB, hh] at h2
      have h3 : inE l kids.length h = true := by
        cases h4 : inE l kids.length h with
        | true => rfl
        | false => rw [h4, Bool.and_false] at h2; cases h2
      simp only [inE, Bool.and_eq_true, decide_eq_true_eq] at h3
      omega
    obtain ⟨m', rfl⟩ : ∃ m', m = m' + 1 := ⟨m - 1, by omega⟩
    have HSZ := Lib.hid (show sizeD nameB (m' + 1) (ExprD.mk op n name kids) = foldSz (sizeD nameB m') kids 1 1 by rw [sizeD]; exact if_pos hh)
    have HIH := Lib.hid (hih m' rfl)
    have HK3 := Lib.hid hk3
    have HM7 := Lib.hid (show m' + 1 ≤ 6 from hm)
    clear hih HH HP HBD h1 hh hm1 hl3 hh3
    go_wp2_with fail
    clear e0 e1 e2 e3
    go_loopg [9, 10, 101] kids.length (fun G pv dv i wr => ∃ j pn dn : Nat, j + G = kids.length ∧ i = .int .i64 j ∧ pv = .int .i64 pn ∧ dv = .int .i64 dn ∧ pn ≤ 1 + 30 * j ∧ dn ≤ 7 ∧ Hid (Below wc.heap.size wc wr ∧ foldSz (sizeD nameB m') kids 1 1 = foldSz (sizeD nameB m') (kids.drop j) pn dn))
    case atStart => exact ⟨0, 1, 1, by omega, rfl, rfl, rfl, by omega, by omega, Lib.hid ⟨Below.refl _ _, rfl⟩⟩
    case round =>
      obtain ⟨j, pn, dn, hj, rfl, rfl, rfl, hpn, hdn, HR⟩ := hrel
      by_cases hlt : j < kids.length
      · obtain ⟨b1, o1, k, cs1, rfl, hk, hkR, k1, k2, rfl, c0, c1, c2, c3⟩ := kid_place (HK.out.1.later (exprAt_lasts d) HR.out.1) hlt
        have hki : (j : Int) < (kids.length : Int) := by omega
        have hba : Below wr.heap.size wr (wr.alloc (.cells #[.int .i64 k.op, .int .i64 k.n, .string k.name, .slice k1 k.kids.length k2] 29)) := (Below.refl _ _).alloc (Nat.le_refl _) _
        have hrow := heap_alloc_new wr (.cells #[.int .i64 k.op, .int .i64 k.n, .string k.name, .slice k1 k.kids.length k2] 29)
        have e0 := cell_of_row _ _ 0 _ _ _ hrow
        have e1 := cell_of_row _ _ 1 _ _ _ hrow
        have e2 := cell_of_row _ _ 2 _ _ _ hrow
        have e3 := cell_of_row _ _ 3 _ _ _ hrow
        simp only [List.getElem?_toArray, List.getElem?_cons_zero, List.getElem?_cons_succ] at e0 e1 e2 e3
        have hdrop : kids.drop j = k :: kids.drop (j + 1) := (List.drop_eq_getElem_cons hlt).trans (by rw [(List.getElem?_eq_some_iff.1 hk).2])
        have hkn : anyOp namedOp d k = false := by
          have := List.any_eq_false.1 HK.out.2 k (List.mem_of_getElem? hk)
          simpa using this
        have HQ := Lib.hid (HIH.out d _ k _ ((HOP.out.later HR.out.1).later hba) ((exprAt_lasts d) _ _ _ _ hba hkR) hkn)
        have HD := Lib.hid (And.intro hdrop (HR.out.1.trans (hba.mono HR.out.1.size)))
        clear hba hrow hdrop hkn hk hkR HIH
        go_wp2_with fail
        refine HQ.out.mono ?_
        rintro e w5 ⟨⟨p5, d5, rfl, hq⟩, hb5⟩
        have HE := Lib.hid (HD.out.2.trans (hb5.mono HD.out.2.size))
        clear hb5 c0 c1 c2 c3 e0 e1 e2 e3
        cases hs : sizeD nameB m' k with
        | none =>
          have HN := Lib.hid (show sizeD nameB (m' + 1) (ExprD.mk op n name kids) = none by rw [HSZ.out, HR.out.2, HD.out.1, foldSz, hs])
          clear hs hq
          go_wp2
          refine bodyPost_ret (results_tmp3 rfl _ _ _) rfl ?_
          exact ⟨sizeRes_none HN.out, HB.out.trans (HE.out.mono HB.out.size)⟩
        | some q =>
          obtain ⟨hp, hd⟩ := hq q hs
          have hs1 := sizeD_small hs
          have hs2 := sizeD_deep m' k q hs
          obtain ⟨qp, qd⟩ := q
          simp only at hp hd hs1 hs2
          subst hp
          subst hd
          have HN := Lib.hid (show foldSz (sizeD nameB m') kids 1 1 = foldSz (sizeD nameB m') (kids.drop (j + 1)) (pn + qp) (max dn (qd + 1)) by rw [HR.out.2, HD.out.1, foldSz, hs])
          have hm7 := HM7.out
          clear hs hq
          go_wp2
          all_goals
            go_roundg (gk - 1)
            case measure => omega
            case rel => exact ⟨j + 1, pn + qp, max dn (qd + 1), by omega, by go_num, by go_num, int_eq_of (by omega), by omega, by omega, Lib.hid ⟨HE.out, HN.out⟩⟩
      · obtain rfl : j = kids.length := by omega
        have HF := Lib.hid (show sizeD nameB (m' + 1) (ExprD.mk op n name kids) = if pn ≤ 30 then some (pn, dn) else none by rw [HSZ.out, HR.out.2, List.drop_length, foldSz])
        have hk3 := HK3.out
        go_wp2
        refine bodyPost_ret (results_tmp3 rfl _ _ _) rfl ?_
        refine ⟨⟨pn, dn, ?_, fun q hq => ?_⟩, HB.out.trans (HR.out.1.mono HB.out.size)⟩
        · rw [HF.out]
          by_cases h30 : pn ≤ 30
          · rw [if_pos h30]
            have : decide ((pn : Int) ≤ 30) = true := decide_eq_true (by omega)
            show Ending.returned (.tuple #[_, _, .bool (decide ((pn : Int) ≤ 30))]) = _
            rw [this]
            rfl
          · rw [if_neg h30]
            have : decide ((pn : Int) ≤ 30) = false := decide_eq_false (by omega)
            show Ending.returned (.tuple #[_, _, .bool (decide ((pn : Int) ≤ 30))]) = _
            rw [this]
            rfl
        · rw [HF.out] at hq
          split at hq
          · cases hq; exact ⟨rfl, rfl⟩
          · cases hq

theorem exprSize_any (nameB : ByteArray → Bool) : ∀ (m d : Nat) (cs : List Value) (x : ExprD) (w : World), m ≤ 6 → OpsAt w → ExprAt d w cs x → anyOp namedOp d x = false →
    Calls Tryd.prog 89 #[.agg cs.toArray, .int .i64 (m : Int)] w fun e w' => SizeRes nameB m x e ∧ Below w.heap.size w w' := by
  intro m
  induction m with
  | zero => exact fun d cs x w h1 h2 h3 h4 => exprSize_step nameB 0 d cs x w h1 h2 h3 h4 (fun m' h => by omega)
  | succ n ih => exact fun d cs x w h1 h2 h3 h4 => exprSize_step nameB (n + 1) d cs x w h1 h2 h3 h4 (fun m' h d cs x w => by
      obtain rfl : n = m' := by omega
      exact ih d cs x w (by omega))

end Go.Proofs.YtccfbnhlhjlmgaaDoor
