
/-
  Expressions: the program's eval, where nothing is named.
-/
import Derived.Test.YtccfbnhlhjlmgaaDoorEx5
namespace Go.Proofs.YtccfbnhlhjlmgaaDoor
open Go.RowKit

def divPanic : Ending := .panicked [{ v := .iface 129 (.int .i64 1), recovered := false }]
theorem stop_any (w : World) : Calls Tryd.prog 116 #[.int .i64 1] w fun e w' => e = divPanic ∧ w' = w := by
  go_enter Tryd.func116, Tryd.ntmps116
  go_wp2
  exact ⟨rfl, rfl, rfl⟩

/-- The value of an expression; none: something is divided by 0. -/
def evalD : Nat → ExprD → Option Int
  | 0, _ => none
  | d + 1, e =>
    if e.op = 1 then some e.n
    else if e.op = 10 then (evalD d (e.kids.getD 0 default)).bind (fun a => if a = 0 then some 0 else (evalD d (e.kids.getD 1 default)).bind (fun b => some (truthI (!(b == 0)))))
    else (evalD d (e.kids.getD 0 default)).bind (fun a => (if 1 < e.kids.length then evalD d (e.kids.getD 1 default) else some 0).bind (fun b => arithD e.op a b))
def evE (o : Option Int) : Ending := match o with
  | none => divPanic
  | some v => .returned (.int .i64 v)
theorem foldSz_mem {f : ExprD → Option (Nat × Nat)} : ∀ (ks : List ExprD) (p d : Nat), foldSz f ks p d ≠ none → ∀ k ∈ ks, f k ≠ none
  | [], _, _, _, k, hk => by simp at hk
  | x :: ks, p, d, h, k, hk => by
    rw [foldSz] at h
    cases hx : f x with
    | none => rw [hx] at h; exact absurd rfl h
    | some q =>
      rw [hx] at h
      rcases List.mem_cons.1 hk with rfl | hk
      · rw [hx]; simp
      · exact foldSz_mem ks _ _ h k hk
theorem size_parts {nameB : ByteArray → Bool} {m : Nat} {x : ExprD} (h : sizeD nameB m x ≠ none) : ∃ m', m = m' + 1 ∧ headB nameB x.op x.n x.name x.kids.length = true ∧ ∀ k ∈ x.kids, sizeD nameB m' k ≠ none := by
  cases m with
  | zero => exact absurd rfl h
  | succ m =>
    rw [sizeD] at h
    split at h
    · rename_i hh
      exact ⟨m, rfl, hh, foldSz_mem _ _ _ h⟩
    · exact absurd rfl h
/-- What a part may be, where nothing is named and no cell is asked for. -/
theorem head_cases {nameB : ByteArray → Bool} {op n : Int} {name : ByteArray} {k : Nat} (h : headB nameB op n name k = true) (h2 : namedOp op = false) (h12 : atOp op = false) :
    (op = 1 ∧ 0 ≤ n ∧ n ≤ 255) ∨ (op ≠ 1 ∧ op ≠ 10 ∧ 0 < lvl op ∧ k = 2) ∨ (op = 10 ∧ k = 2) ∨ (op = 11 ∧ k = 1) := by
  simp only [namedOp, Bool.or_eq_false_iff, beq_eq_false_iff_ne] at h2
  simp only [atOp, beq_eq_false_iff_ne] at h12
  unfold headB at h
  split at h
  · rename_i h1
    simp only [Bool.and_eq_true, inE, decide_eq_true_eq] at h
    exact .inl ⟨h1, h.1.1, h.1.2⟩
  · rename_i h1
    rw [if_neg h2.1, if_neg h2.2] at h
    split at h
    · rename_i hl
      simp only [Bool.and_eq_true, beq_iff_eq] at h
      by_cases h10 : op = 10
      · exact .inr (.inr (.inl ⟨h10, h.2.2⟩))
      · exact .inr (.inl ⟨h1, h10, hl, h.2.2⟩)
    · split at h
      · rename_i h11
        simp only [Bool.and_eq_true, beq_iff_eq] at h
        exact .inr (.inr (.inr ⟨by omega, h.2.2⟩))
      · cases h
theorem any_parts {p : Int → Bool} {d : Nat} {x : ExprD} (h : anyOp p (d + 1) x = false) : p x.op = false ∧ ∀ k ∈ x.kids, anyOp p d k = false := by
  rw [anyOp, Bool.or_eq_false_iff] at h
  exact ⟨h.1, fun k hk => by simpa using List.any_eq_false.1 h.2 k hk⟩
theorem kid_get {ks : List ExprD} {i : Nat} (h : i < ks.length) : ks[i]? = some (ks.getD i default) ∧ ks.getD i default ∈ ks := by
  have : ks[i]? = some ks[i] := List.getElem?_eq_getElem h
  rw [List.getD_eq_getElem?_getD, this]
  exact ⟨rfl, List.getElem_mem h⟩
theorem truthI_range (c : Bool) : 0 ≤ truthI c ∧ truthI c ≤ 255 := by cases c <;> simp [truthI]
theorem evalD_range {nameB : ByteArray → Bool} : ∀ (d m : Nat) (x : ExprD) (v : Int), sizeD nameB m x ≠ none → anyOp namedOp d x = false → anyOp atOp d x = false → evalD d x = some v → 0 ≤ v ∧ v ≤ 255
  | 0, _, _, _, _, _, _, h => by cases h
  | d + 1, m, x, v, hs, hN, hA, h => by
    obtain ⟨m', rfl, hh, hk⟩ := size_parts hs
    obtain ⟨hn, hnk⟩ := any_parts hN
    obtain ⟨ha, hak⟩ := any_parts hA
    rw [evalD] at h
    rcases head_cases hh hn ha with ⟨h1, h2, h3⟩ | ⟨h1, h10, hl, h2⟩ | ⟨h1, h2⟩ | ⟨h1, h2⟩
    · rw [if_pos h1] at h
      cases h
      exact ⟨h2, h3⟩
    · rw [if_neg h1, if_neg h10] at h
      obtain ⟨-, m0⟩ := kid_get (ks := x.kids) (i := 0) (by omega)
      obtain ⟨-, m1⟩ := kid_get (ks := x.kids) (i := 1) (by omega)
      obtain ⟨a, hea, h⟩ := Option.bind_eq_some_iff.1 h
      rw [if_pos (by omega)] at h
      obtain ⟨b, heb, h⟩ := Option.bind_eq_some_iff.1 h
      exact arithD_range (evalD_range d m' _ a (hk _ m0) (hnk _ m0) (hak _ m0) hea) (evalD_range d m' _ b (hk _ m1) (hnk _ m1) (hak _ m1) heb) h
    · rw [if_neg (by omega), if_pos h1] at h
      obtain ⟨a, hea, h⟩ := Option.bind_eq_some_iff.1 h
      split at h
      · cases h; omega
      · obtain ⟨b, heb, h⟩ := Option.bind_eq_some_iff.1 h
        cases h
        exact truthI_range _
    · rw [if_neg (by omega), if_neg (by omega)] at h
      obtain ⟨-, m0⟩ := kid_get (ks := x.kids) (i := 0) (by omega)
      obtain ⟨a, hea, h⟩ := Option.bind_eq_some_iff.1 h
      rw [if_neg (by omega)] at h
      obtain ⟨b, heb, h⟩ := Option.bind_eq_some_iff.1 h
      cases heb
      exact arithD_range (evalD_range d m' _ a (hk _ m0) (hnk _ m0) (hak _ m0) hea) (by omega) h

end Go.Proofs.YtccfbnhlhjlmgaaDoor
