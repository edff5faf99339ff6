
/-
  Expressions: the program's eval, where nothing is named: the walk.
-/
import Derived.Test.YtccfbnhlhjlmgaaDoorEx6
namespace Go.Proofs.YtccfbnhlhjlmgaaDoor
open Go.RowKit

set_option maxRecDepth 100000 in
set_option maxHeartbeats 8000000 in
theorem eval_any (nameB : ByteArray → Bool) (mp vp : Value) : ∀ (d m : Nat) (cs : List Value) (x : ExprD) (w : World), ExprAt d w cs x → sizeD nameB m x ≠ none → anyOp namedOp d x = false → anyOp atOp d x = false →
    Calls Tryd.prog 69 #[mp, .agg cs.toArray, vp] w fun e w' => e = evE (evalD d x) ∧ Below w.heap.size w w' := by
  intro d
  induction d with
  | zero => exact fun _ _ _ _ h => h.elim
  | succ d ih =>
  intro m cs x w hx hs hN hA
  obtain ⟨ka, kc, rfl, ⟨hkl, hop⟩, hks⟩ := hx
  obtain ⟨m', rfl, hh, hk⟩ := size_parts hs
  obtain ⟨hn, hnk⟩ := any_parts hN
  obtain ⟨ha, hak⟩ := any_parts hA
  have hcase := head_cases hh hn ha
  have hba : Below w.heap.size w (w.alloc (.cells #[.int .i64 x.op, .int .i64 x.n, .string x.name, .slice ka x.kids.length kc] 29)) := (Below.refl _ _).alloc (Nat.le_refl _) _
  have hrow := heap_alloc_new w (.cells #[.int .i64 x.op, .int .i64 x.n, .string x.name, .slice ka x.kids.length kc] 29)
  have HIH := Lib.hid (fun i (hi : i < x.kids.length) cs' W (hx' : ExprAt d W cs' (x.kids.getD i default)) => ih m' cs' (x.kids.getD i default) W hx' (hk _ (kid_get hi).2) (hnk _ (kid_get hi).2) (hak _ (kid_get hi).2))
  have HRG := Lib.hid (fun i (hi : i < x.kids.length) v h => evalD_range d m' (x.kids.getD i default) v (hk _ (kid_get hi).2) (hnk _ (kid_get hi).2) (hak _ (kid_get hi).2) h)
  have HK := Lib.hid (And.intro (hks.later (exprAt_lasts d) hba) hrow)
  have HB := Lib.hid hba
  have e0 := cell_of_row _ _ 0 _ _ _ hrow
  have e1 := cell_of_row _ _ 1 _ _ _ hrow
  have e3 := cell_of_row _ _ 3 _ _ _ hrow
  simp only [List.getElem?_toArray, List.getElem?_cons_zero, List.getElem?_cons_succ] at e0 e1 e3
  simp only [namedOp, Bool.or_eq_false_iff] at hn
  obtain ⟨n2, n13⟩ := hn
  have n12 : (x.op == 12) = false := ha
  have HEV := Lib.hid (evalD.eq_2 x d)
  clear hs hN hA hks hh hk hnk hak ha hba hrow ih
  go_enter Tryd.func69, Tryd.ntmps69
  go_upto_region 1 with fail
  obtain ⟨b, hb⟩ : ∃ b, b = w.heap.size := ⟨_, rfl⟩
  generalize w.alloc (.cells #[.int .i64 x.op, .int .i64 x.n, .string x.name, .slice ka x.kids.length kc] 29) = W1 at HK HB e0 e1 e3 ⊢
  rw [← hb] at HK e0 e1 e3 ⊢
  clear hb
  rcases hcase with ⟨h1, h2, h3⟩ | ⟨h1, h10, hl, hk2⟩ | ⟨h10, hk2⟩ | ⟨h11, hk2⟩
  · have o1 : (x.op == 1) = true := by simp [h1]
    have HV := Lib.hid (show evalD (d + 1) x = some x.n from HEV.out.trans (if_pos h1))
    clear h1 n2 n13 n12
    go_wp2
    go_ret
    exact ⟨by rw [HV.out]; rfl, HB.out⟩
  · have o1 : (x.op == 1) = false := by simpa using h1
    have o10 : (x.op == 10) = false := by simpa using h10
    obtain ⟨bp, op, kp, csp, hkap, hkp, hRp, kap, kcp, hcsp, cp0, cp1, cp2, cp3⟩ := kid_place HK.out.1 (show 0 < x.kids.length by omega)
    have hgp : x.kids.getD 0 default = kp := Option.some.inj ((kid_get (show 0 < x.kids.length by omega)).1.symm.trans hkp)
    subst hcsp
    subst hkap
    rw [Nat.zero_mul, Nat.add_zero] at cp0 cp1 cp2 cp3
    have hki : (0 : Int) < (x.kids.length : Int) := by omega
    have HQ := Lib.hid (HIH.out 0 (by omega) _ W1 (by rw [hgp]; exact hRp))
    have HR0 := Lib.hid (HRG.out 0 (by omega))
    have HK2 := Lib.hid hk2
    have HE2 := Lib.hid (HEV.out.trans ((if_neg h1).trans (if_neg h10)))
    clear h1 h10
    clear hkp hRp hgp
    go_wp2_with fail
    refine HQ.out.mono ?_
    rintro e w2 ⟨he, hb2⟩
    have H2 := Lib.hid (And.intro (HB.out.trans (hb2.mono HB.out.size)) hb2)
    have f0 := cell_later hb2 e0
    have f1 := cell_later hb2 e1
    have f3 := cell_later hb2 e3
    clear hb2 cp0 cp1 cp2 cp3 e0 e1 e3
    generalize evalD d (x.kids.getD 0 default) = va at he HR0 HE2
    cases va with
    | none =>
      have HN := Lib.hid (show evalD (d + 1) x = none from HE2.out)
      subst he
      exact ⟨rfl, by rw [HN.out]; rfl, H2.out.1⟩
    | some a =>
      obtain rfl : e = .returned (.int .i64 a) := he
      have hra := HR0.out a rfl
      have HE3 := Lib.hid (show evalD (d + 1) x = (evalD d (x.kids.getD 1 default)).bind (fun b => arithD x.op a b) from HE2.out.trans (by show ((if 1 < x.kids.length then _ else _) : Option Int).bind _ = _; rw [if_pos (by have := HK2.out; omega)]))
      obtain ⟨bq, oq, kq, csq, hkaq, hkq, hRq, kaq, kcq, hcsq, cq0, cq1, cq2, cq3⟩ := kid_place (HK.out.1.later (exprAt_lasts d) H2.out.2) (show 1 < x.kids.length by omega)
      have hgq : x.kids.getD 1 default = kq := Option.some.inj ((kid_get (show 1 < x.kids.length by omega)).1.symm.trans hkq)
      subst hcsq
      cases hkaq
      rw [Nat.one_mul] at cq0 cq1 cq2 cq3
      have HQ1 := Lib.hid (HIH.out 1 (by have := HK2.out; omega) _ w2 (by rw [hgq]; exact hRq))
      have HR1 := Lib.hid (HRG.out 1 (by have := HK2.out; omega))
      have hkj : (1 : Int) < (x.kids.length : Int) := by have := HK2.out; omega
      clear hkq hRq hgq
      go_wp2_with fail
      refine HQ1.out.mono ?_
      rintro e w3 ⟨he, hb3⟩
      have H3 := Lib.hid (H2.out.1.trans (hb3.mono H2.out.1.size))
      have g0 := cell_later hb3 f0
      clear hb3 cq0 cq1 cq2 cq3 f0 f1 f3
      generalize evalD d (x.kids.getD 1 default) = vb at he HR1 HE3
      cases vb with
      | none =>
        have HN := Lib.hid (show evalD (d + 1) x = none from HE3.out)
        subst he
        exact ⟨rfl, by rw [HN.out]; rfl, H3.out⟩
      | some v =>
        obtain rfl : e = .returned (.int .i64 v) := he
        have hrb := HR1.out v rfl
        have HEF := Lib.hid (show evalD (d + 1) x = arithD x.op a v from HE3.out)
        clear hki hkj n2 n13
        have HAR := Lib.hid (arith_any x.op a v hra hrb w3)
        have HV := Lib.hid (show evalD (d + 1) x = arithD x.op a v from HEF.out)
        go_wp2_with fail
        refine HAR.out.mono ?_
        rintro e w4 ⟨he, rfl⟩
        generalize arithD x.op a v = r at he HV
        cases r with
        | none =>
          obtain rfl : e = .returned (.tuple #[.int .i64 0, .bool false]) := he
          have HS := Lib.hid (stop_any w4)
          go_wp2_with fail
          refine HS.out.mono ?_
          rintro e w5 ⟨rfl, rfl⟩
          exact ⟨rfl, by rw [HV.out]; rfl, H3.out⟩
        | some r =>
          obtain rfl : e = .returned (.tuple #[.int .i64 r, .bool true]) := he
          go_wp2
          go_ret
          exact ⟨by rw [HV.out]; rfl, H3.out⟩
  · have o1 : (x.op == 1) = false := by simp [h10]
    have o10 : (x.op == 10) = true := by simp [h10]
    have h1 : ¬ x.op = 1 := by omega
    obtain ⟨bp, op, kp, csp, hkap, hkp, hRp, kap, kcp, hcsp, cp0, cp1, cp2, cp3⟩ := kid_place HK.out.1 (show 0 < x.kids.length by omega)
    have hgp : x.kids.getD 0 default = kp := Option.some.inj ((kid_get (show 0 < x.kids.length by omega)).1.symm.trans hkp)
    subst hcsp
    subst hkap
    rw [Nat.zero_mul, Nat.add_zero] at cp0 cp1 cp2 cp3
    have hki : (0 : Int) < (x.kids.length : Int) := by omega
    have HQ := Lib.hid (HIH.out 0 (by omega) _ W1 (by rw [hgp]; exact hRp))
    have HR0 := Lib.hid (HRG.out 0 (by omega))
    have HK2 := Lib.hid hk2
    have HE2 := Lib.hid (HEV.out.trans ((if_neg h1).trans (if_pos h10)))
    clear h1 h10
    clear hkp hRp hgp
    go_wp2_with fail
    refine HQ.out.mono ?_
    rintro e w2 ⟨he, hb2⟩
    have H2 := Lib.hid (And.intro (HB.out.trans (hb2.mono HB.out.size)) hb2)
    have f0 := cell_later hb2 e0
    have f1 := cell_later hb2 e1
    have f3 := cell_later hb2 e3
    clear hb2 cp0 cp1 cp2 cp3 e0 e1 e3
    generalize evalD d (x.kids.getD 0 default) = va at he HR0 HE2
    cases va with
    | none =>
      have HN := Lib.hid (show evalD (d + 1) x = none from HE2.out)
      subst he
      exact ⟨rfl, by rw [HN.out]; rfl, H2.out.1⟩
    | some a =>
      obtain rfl : e = .returned (.int .i64 a) := he
      have hra := HR0.out a rfl
      by_cases hz : a = 0
      · have HV := Lib.hid (show evalD (d + 1) x = some 0 from HE2.out.trans (by show (if a = 0 then _ else _ : Option Int) = _; rw [if_pos hz]))
        subst hz
        go_wp2
        go_ret
        exact ⟨by rw [HV.out]; rfl, H2.out.1⟩
      · have HE3 := Lib.hid (show evalD (d + 1) x = (evalD d (x.kids.getD 1 default)).bind (fun b => some (truthI (!(b == 0)))) from HE2.out.trans (by show (if a = 0 then _ else _ : Option Int) = _; rw [if_neg hz]))
        have az : (a == 0) = false := by simpa using hz
        clear hz
        obtain ⟨bq, oq, kq, csq, hkaq, hkq, hRq, kaq, kcq, hcsq, cq0, cq1, cq2, cq3⟩ := kid_place (HK.out.1.later (exprAt_lasts d) H2.out.2) (show 1 < x.kids.length by omega)
        have hgq : x.kids.getD 1 default = kq := Option.some.inj ((kid_get (show 1 < x.kids.length by omega)).1.symm.trans hkq)
        subst hcsq
        cases hkaq
        rw [Nat.one_mul] at cq0 cq1 cq2 cq3
        have HQ1 := Lib.hid (HIH.out 1 (by have := HK2.out; omega) _ w2 (by rw [hgq]; exact hRq))
        have HR1 := Lib.hid (HRG.out 1 (by have := HK2.out; omega))
        have hkj : (1 : Int) < (x.kids.length : Int) := by have := HK2.out; omega
        clear hkq hRq hgq
        go_wp2_with fail
        refine HQ1.out.mono ?_
        rintro e w3 ⟨he, hb3⟩
        have H3 := Lib.hid (H2.out.1.trans (hb3.mono H2.out.1.size))
        have g0 := cell_later hb3 f0
        clear hb3 cq0 cq1 cq2 cq3 f0 f1 f3
        generalize evalD d (x.kids.getD 1 default) = vb at he HR1 HE3
        cases vb with
        | none =>
          have HN := Lib.hid (show evalD (d + 1) x = none from HE3.out)
          subst he
          exact ⟨rfl, by rw [HN.out]; rfl, H3.out⟩
        | some v =>
          obtain rfl : e = .returned (.int .i64 v) := he
          have hrb := HR1.out v rfl
          have HAR := Lib.hid (arith_any 10 1 v (by omega) hrb w3)
          rw [show arithD 10 1 v = some (truthI (!(v == 0))) from rfl] at HAR
          have HV := Lib.hid (show evalD (d + 1) x = some (truthI (!(v == 0))) from HE3.out)
          clear hki hkj n2 n13
          generalize truthI (!(v == 0)) = t at HAR HV
          go_wp2_with fail
          refine HAR.out.mono ?_
          rintro e w4 ⟨he, rfl⟩
          obtain rfl : e = .returned (.tuple #[.int .i64 t, .bool true]) := he
          go_wp2
          go_ret
          exact ⟨by rw [HV.out]; rfl, H3.out⟩
  · have o1 : (x.op == 1) = false := by simp [h11]
    have o10 : (x.op == 10) = false := by simp [h11]
    have h1 : ¬ x.op = 1 := by omega
    have h10 : ¬ x.op = 10 := by omega
    obtain ⟨bp, op, kp, csp, hkap, hkp, hRp, kap, kcp, hcsp, cp0, cp1, cp2, cp3⟩ := kid_place HK.out.1 (show 0 < x.kids.length by omega)
    have hgp : x.kids.getD 0 default = kp := Option.some.inj ((kid_get (show 0 < x.kids.length by omega)).1.symm.trans hkp)
    subst hcsp
    subst hkap
    rw [Nat.zero_mul, Nat.add_zero] at cp0 cp1 cp2 cp3
    have hki : (0 : Int) < (x.kids.length : Int) := by omega
    have HQ := Lib.hid (HIH.out 0 (by omega) _ W1 (by rw [hgp]; exact hRp))
    have HR0 := Lib.hid (HRG.out 0 (by omega))
    have HK2 := Lib.hid hk2
    have HE2 := Lib.hid (HEV.out.trans ((if_neg h1).trans (if_neg h10)))
    clear h1 h10 h11
    clear hkp hRp hgp
    go_wp2_with fail
    refine HQ.out.mono ?_
    rintro e w2 ⟨he, hb2⟩
    have H2 := Lib.hid (And.intro (HB.out.trans (hb2.mono HB.out.size)) hb2)
    have f0 := cell_later hb2 e0
    have f1 := cell_later hb2 e1
    have f3 := cell_later hb2 e3
    clear hb2 cp0 cp1 cp2 cp3 e0 e1 e3
    generalize evalD d (x.kids.getD 0 default) = va at he HR0 HE2
    cases va with
    | none =>
      have HN := Lib.hid (show evalD (d + 1) x = none from HE2.out)
      subst he
      exact ⟨rfl, by rw [HN.out]; rfl, H2.out.1⟩
    | some a =>
      obtain rfl : e = .returned (.int .i64 a) := he
      have hra := HR0.out a rfl
      have HEF := Lib.hid (show evalD (d + 1) x = arithD x.op a 0 from HE2.out.trans (by show ((if 1 < x.kids.length then _ else _) : Option Int).bind _ = _; rw [if_neg (by have := HK2.out; omega)]; rfl))
      have hkj : ¬ (1 : Int) < (x.kids.length : Int) := by have := HK2.out; omega
      clear n2 n13
      have HAR := Lib.hid (arith_any x.op a 0 hra (by omega) w2)
      have HV := Lib.hid (show evalD (d + 1) x = arithD x.op a 0 from HEF.out)
      go_wp2_with fail
      refine HAR.out.mono ?_
      rintro e w4 ⟨he, rfl⟩
      generalize arithD x.op a 0 = r at he HV
      cases r with
      | none =>
        obtain rfl : e = .returned (.tuple #[.int .i64 0, .bool false]) := he
        have HS := Lib.hid (stop_any w4)
        go_wp2_with fail
        refine HS.out.mono ?_
        rintro e w5 ⟨rfl, rfl⟩
        exact ⟨rfl, by rw [HV.out]; rfl, H2.out.1⟩
      | some r =>
        obtain rfl : e = .returned (.tuple #[.int .i64 r, .bool true]) := he
        go_wp2
        go_ret
        exact ⟨by rw [HV.out]; rfl, H2.out.1⟩

end Go.Proofs.YtccfbnhlhjlmgaaDoor
