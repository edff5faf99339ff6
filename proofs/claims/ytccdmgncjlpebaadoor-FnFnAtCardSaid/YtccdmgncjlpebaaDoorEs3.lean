/-
  Expressions: the reference's ExprValid: the parts are counted; it is the program's.
-/
import Derived.Test.YtccdmgncjlpebaaDoorEs2

namespace Go.Proofs.YtccdmgncjlpebaaDoor
open Go.RowKit

/-- How many parts, to a depth. -/
def partsD : Nat → ExprD → Nat
  | 0, _ => 1
  | d + 1, e => 1 + (e.kids.map (partsD d)).sum
def cap (m : Nat) : Nat := 4 ^ m
theorem cap_succ (m : Nat) : cap (m + 1) = 4 * cap m := by rw [cap, cap, Nat.pow_succ]; omega
theorem cap_pos (m : Nat) : 1 ≤ cap m := by
  induction m with
  | zero => decide
  | succ m ih => rw [cap_succ]; omega
theorem sum_le {f : ExprD → Nat} {c : Nat} : ∀ {ks : List ExprD}, (∀ k ∈ ks, f k ≤ c) → (ks.map f).sum ≤ ks.length * c
  | [], _ => by simp
  | k :: ks, h => by
    have h1 := h k (by simp)
    have h2 := sum_le (ks := ks) (fun x hx => h x (by simp [hx]))
    rw [List.map_cons, List.sum_cons, List.length_cons, Nat.succ_mul]
    omega
theorem head_kids {op n : Int} {name : ByteArray} {k : Nat} (h : headB nameD op n name k = true) : k ≤ 3 := by
  have h2 := head_form 0 op n name k
  rw [h] at h2
  have h3 : bad1 1 op k = false := by
    cases hb : bad1 1 op k with
    | false => rfl
    | true => rw [hb] at h2; simp at h2
  rw [bad1, Bool.or_eq_false_iff, Bool.or_eq_false_iff] at h3
  have h4 : inE (loK op) k (hiK op) = true := by simpa using h3.2.2
  have h5 : hiK op ≤ 3 := by
    unfold hiK
    repeat' split
    all_goals omega
  simp only [inE, Bool.and_eq_true, decide_eq_true_eq] at h4
  omega
theorem form_parts {m : Nat} {x : ExprD} (h : formD (m + 1) x = true) : headB nameD x.op x.n x.name x.kids.length = true ∧ ∀ k ∈ x.kids, formD m k = true := by
  rw [formD, Bool.and_eq_true] at h
  exact ⟨h.1, fun k hk => List.all_eq_true.1 h.2 k hk⟩
theorem parts_cap : ∀ (m : Nat) (x : ExprD), formD m x = true → partsD m x ≤ cap m
  | 0, x, h => by cases h
  | m + 1, x, h => by
    obtain ⟨h1, h2⟩ := form_parts h
    have h3 := head_kids h1
    have h4 := sum_le (f := partsD m) (c := cap m) (ks := x.kids) (fun k hk => parts_cap m k (h2 k hk))
    have h5 : x.kids.length * cap m ≤ 3 * cap m := Nat.mul_le_mul_right _ h3
    have h6 := cap_pos m
    rw [partsD, cap_succ]
    omega

theorem foldSz_form {m : Nat} (hf : ∀ x, (∀ q, sizeD nameD m x = some q → formD m x = true ∧ q.1 = partsD m x) ∧ (formD m x = true → partsD m x ≤ 30 → sizeD nameD m x ≠ none)) : ∀ (ks : List ExprD) (p d : Nat),
    (∀ q, foldSz (sizeD nameD m) ks p d = some q → ks.all (formD m) = true ∧ q.1 = p + (ks.map (partsD m)).sum ∧ q.1 ≤ 30) ∧ (ks.all (formD m) = true → p + (ks.map (partsD m)).sum ≤ 30 → foldSz (sizeD nameD m) ks p d ≠ none)
  | [], p, d => by
    refine ⟨fun q hq => ?_, fun _ h => ?_⟩
    · rw [foldSz] at hq
      split at hq
      · cases hq; exact ⟨rfl, by simp, by assumption⟩
      · cases hq
    · have h : p ≤ 30 := by simpa using h
      rw [foldSz, if_pos h]; simp
  | k :: ks, p, d => by
    refine ⟨fun q hq => ?_, fun h1 h2 => ?_⟩
    · rw [foldSz] at hq
      split at hq
      · cases hq
      · rename_i n d' hk
        obtain ⟨a1, a2⟩ := (hf k).1 _ hk
        obtain ⟨b1, b2, b3⟩ := (foldSz_form hf ks (p + n) (max d (d' + 1))).1 q hq
        simp only at a2
        refine ⟨by rw [List.all_cons, a1, b1]; rfl, by rw [b2, a2, List.map_cons, List.sum_cons]; omega, b3⟩
    · rw [List.all_cons, Bool.and_eq_true] at h1
      rw [List.map_cons, List.sum_cons] at h2
      have hk := (hf k).2 h1.1 (by omega)
      rw [foldSz]
      split
      · rename_i hk2; exact absurd hk2 hk
      · rename_i n d' hk2
        obtain ⟨_, a2⟩ := (hf k).1 _ hk2
        simp only at a2
        exact (foldSz_form hf ks (p + n) (max d (d' + 1))).2 h1.2 (by omega)
theorem size_form : ∀ (m : Nat) (x : ExprD), (∀ q, sizeD nameD m x = some q → formD m x = true ∧ q.1 = partsD m x) ∧ (formD m x = true → partsD m x ≤ 30 → sizeD nameD m x ≠ none)
  | 0, x => ⟨fun q h => (by cases h), fun h => by cases h⟩
  | m + 1, x => by
    obtain ⟨f1, f2⟩ := foldSz_form (size_form m) x.kids 1 1
    refine ⟨fun q hq => ?_, fun h1 h2 => ?_⟩
    · rw [sizeD] at hq
      split at hq
      · rename_i hh
        obtain ⟨a1, a2, _⟩ := f1 q hq
        exact ⟨by rw [formD, hh, a1]; rfl, a2⟩
      · cases hq
    · rw [formD, Bool.and_eq_true] at h1
      rw [sizeD, if_pos h1.1]
      exact f2 h1.2 h2
theorem valid_form (m : Nat) (x : ExprD) : (formD m x && decide (partsD m x ≤ 30)) = (sizeD nameD m x).isSome := by
  obtain ⟨h1, h2⟩ := size_form m x
  cases hs : sizeD nameD m x with
  | none =>
    cases hf : formD m x with
    | false => rfl
    | true =>
      by_cases hp : partsD m x ≤ 30
      · exact absurd hs (h2 hf hp)
      · rw [decide_eq_false hp]; rfl
  | some q =>
    obtain ⟨a1, a2⟩ := h1 q hs
    have := sizeD_small hs
    rw [a1, decide_eq_true (by omega)]; rfl

set_option maxRecDepth 100000 in
set_option maxHeartbeats 4000000 in
theorem l2Parts_any : ∀ (m d : Nat) (cs : List Value) (x : ExprD) (w : World), m ≤ 6 → ExprAt d w cs x → formD m x = true →
    Calls Tryd.prog 64 #[.agg cs.toArray] w fun e w' => e = .returned (.int .i64 (partsD m x : Int)) ∧ Below w.heap.size w w' := by
  intro m
  induction m with
  | zero => exact fun d cs x w _ _ h => by cases h
  | succ m ih =>
  intro d cs x w hm hx hf
  cases d with
  | zero => exact hx.elim
  | succ d =>
  obtain ⟨ka, kc, rfl, ⟨hkl, hop⟩, hks⟩ := hx
  obtain ⟨hh, hfk⟩ := form_parts hf
  have hk3 := head_kids hh
  have hba : Below w.heap.size w (w.alloc (.cells #[.int .i64 x.op, .int .i64 x.n, .string x.name, .slice ka x.kids.length kc] 54)) := (Below.refl _ _).alloc (Nat.le_refl _) _
  have hrow := heap_alloc_new w (.cells #[.int .i64 x.op, .int .i64 x.n, .string x.name, .slice ka x.kids.length kc] 54)
  have e3 := cell_of_row _ _ 3 _ _ _ hrow
  simp only [List.getElem?_toArray, List.getElem?_cons_zero, List.getElem?_cons_succ] at e3
  have HB := Lib.hid hba
  have HK := Lib.hid (And.intro (hks.later (exprAt_lasts d) hba) hfk)
  have HIH := Lib.hid (fun k (hk : k ∈ x.kids) cs' W (hx' : ExprAt d W cs' k) => ih d cs' k W (by omega) hx' (hfk k hk))
  have HC := Lib.hid (fun k (hk : k ∈ x.kids) => parts_cap m k (hfk k hk))
  have hcap : cap m ≤ 1024 := by
    have : cap m ≤ cap 5 := Nat.pow_le_pow_right (by omega) (by omega)
    exact this
  have HF := Lib.hid (show partsD (m + 1) x = 1 + (x.kids.map (partsD m)).sum from rfl)
  generalize partsD (m + 1) x = R at HF ⊢
  clear hba hrow hks hfk hh hf hop ih
  go_enter Tryd.func64, Tryd.ntmps64
  go_upto_region 1 with fail
  obtain ⟨b, hb⟩ : ∃ b, b = w.heap.size := ⟨_, rfl⟩
  generalize w.alloc (.cells #[.int .i64 x.op, .int .i64 x.n, .string x.name, .slice ka x.kids.length kc] 54) = W1 at HB HK e3 ⊢
  rw [← hb] at e3 ⊢
  clear hb
  have HE3 := Lib.hid e3
  clear e3
  go_wp2_with fail
  go_loopg [3, 4] x.kids.length (fun G n i wr => ∃ j s : Nat, j + G = x.kids.length ∧ i = .int .i64 j ∧ n = .int .i64 s ∧ s ≤ 1 + j * 1024 ∧ Hid (Below W1.heap.size W1 wr ∧ s = 1 + ((x.kids.take j).map (partsD m)).sum))
  case atStart => exact ⟨0, 1, by omega, rfl, rfl, by omega, Lib.hid ⟨Below.refl _ _, rfl⟩⟩
  case round =>
    obtain ⟨j, s, hj, rfl, rfl, hs, HR⟩ := hrel
    have e3 := cell_later HR.out.1 HE3.out
    by_cases hlt : j < x.kids.length
    · obtain ⟨b1, o1, k, cs1, rfl, hk, hkR, k1, k2, rfl, c0, c1, c2, c3⟩ := kid_place (HK.out.1.later (exprAt_lasts d) HR.out.1) hlt
      have hki : (j : Int) < (x.kids.length : Int) := by omega
      have HQ := Lib.hid (HIH.out k (List.mem_of_getElem? hk) _ wr hkR)
      have HT := Lib.hid (show x.kids.take (j + 1) = x.kids.take j ++ [k] from take_succ_of hk)
      have hpk := HC.out k (List.mem_of_getElem? hk)
      clear hk hkR
      have HN := Lib.hid (show s + partsD m k = 1 + ((x.kids.take (j + 1)).map (partsD m)).sum by rw [HT.out, List.map_append, List.sum_append, HR.out.2]; simp; omega)
      generalize partsD m k = pk at hpk HQ HN
      go_wp2_with fail
      refine HQ.out.mono ?_
      rintro e w5 ⟨rfl, hb5⟩
      have HE := Lib.hid (HR.out.1.trans (hb5.mono HR.out.1.size))
      clear hb5 c0 c1 c2 c3 e3
      go_wp2
      go_roundg (gk - 1)
      case measure => omega
      case rel => exact ⟨j + 1, s + pk, by omega, by go_num, by go_num, by omega, Lib.hid ⟨HE.out, HN.out⟩⟩
    · obtain rfl : j = x.kids.length := by omega
      have HN := Lib.hid (show s = R by have := HR.out.2; rw [List.take_length] at this; rw [HF.out]; exact this)
      go_wp2
      go_ret
      exact ⟨by rw [← HN.out]; rfl, HB.out.trans (HR.out.1.mono HB.out.size)⟩

set_option maxRecDepth 100000 in
set_option maxHeartbeats 2000000 in
theorem exprValidS_any (d : Nat) (cs : List Value) (x : ExprD) (w : World) (hx : ExprAt d w cs x) (hN : anyE longP d x = false) :
    Calls Tryd.prog 58 #[.agg cs.toArray] w fun e w' => e = .returned (.bool (sizeD nameD 6 x).isSome) ∧ Below w.heap.size w w' := by
  cases d with
  | zero => exact hx.elim
  | succ d =>
  have hx2 := hx
  obtain ⟨ka, kc, rfl, _, _⟩ := hx2
  have hba : Below w.heap.size w (w.alloc (.cells #[.int .i64 x.op, .int .i64 x.n, .string x.name, .slice ka x.kids.length kc] 54)) := (Below.refl _ _).alloc (Nat.le_refl _) _
  have hrow := heap_alloc_new w (.cells #[.int .i64 x.op, .int .i64 x.n, .string x.name, .slice ka x.kids.length kc] 54)
  have e0 := cell_of_row _ _ 0 _ _ _ hrow
  have e1 := cell_of_row _ _ 1 _ _ _ hrow
  have e2 := cell_of_row _ _ 2 _ _ _ hrow
  have e3 := cell_of_row _ _ 3 _ _ _ hrow
  simp only [List.getElem?_toArray, List.getElem?_cons_zero, List.getElem?_cons_succ] at e0 e1 e2 e3
  have HQ := Lib.hid (l2Form_any 6 (d + 1) _ x _ (by omega) (exprAt_lasts (d + 1) _ _ _ _ hba hx) hN)
  have HX := Lib.hid (And.intro hba (exprAt_lasts (d + 1) _ _ _ _ hba hx))
  have HV := Lib.hid (valid_form 6 x)
  generalize (sizeD nameD 6 x).isSome = R at HV ⊢
  clear hba hrow hx hN
  cases hf : formD 6 x with
  | false =>
    have HN := Lib.hid (show R = false by rw [← HV.out, hf]; rfl)
    rw [hf] at HQ
    clear hf
    go_enter Tryd.func58, Tryd.ntmps58
    go_wp2_with fail
    refine HQ.out.mono ?_
    rintro e w5 ⟨rfl, hb5⟩
    have HE := Lib.hid (HX.out.1.trans (hb5.mono HX.out.1.size))
    clear hb5
    go_wp2
    go_ret
    exact ⟨by rw [HN.out]; rfl, HE.out⟩
  | true =>
    have HFT := Lib.hid hf
    have HN := Lib.hid (show R = decide (partsD 6 x ≤ 30) by rw [← HV.out, hf]; rfl)
    rw [hf] at HQ
    clear hf
    go_enter Tryd.func58, Tryd.ntmps58
    go_wp2_with fail
    refine HQ.out.mono ?_
    rintro e w5 ⟨rfl, hb5⟩
    have HE := Lib.hid (HX.out.1.trans (hb5.mono HX.out.1.size))
    have f0 := cell_later hb5 e0
    have f1 := cell_later hb5 e1
    have f2 := cell_later hb5 e2
    have f3 := cell_later hb5 e3
    have HP := Lib.hid (l2Parts_any 6 (d + 1) _ x w5 (by omega) (exprAt_lasts (d + 1) _ _ _ _ hb5 HX.out.2) HFT.out)
    clear hb5 e0 e1 e2 e3
    generalize partsD 6 x = p at HN HP
    go_wp2_with fail
    refine HP.out.mono ?_
    rintro e w6 ⟨rfl, hb6⟩
    have HE6 := Lib.hid (HE.out.trans (hb6.mono HE.out.size))
    clear hb6 f0 f1 f2 f3
    have HD := Lib.hid (show decide ((p : Int) ≤ 30) = decide (p ≤ 30) by
      by_cases h : p ≤ 30
      · rw [decide_eq_true h, decide_eq_true (by omega)]
      · rw [decide_eq_false h, decide_eq_false (by omega)])
    go_wp2
    go_ret
    refine ⟨?_, HE6.out⟩
    rw [HN.out, ← HD.out]
    rfl

end Go.Proofs.YtccdmgncjlpebaaDoor
