
/-
  SameMachs, the reference's and the program's.
-/
import Derived.Test.YtdkafajmhgfkoaaDoorMachData
import Derived.Deep.DeepCutAuto
namespace Go.Proofs.YtdkafajmhgfkoaaDoor
open Go.RowKit

def allK (q : Nat → Bool) : Nat → Bool
  | 0 => true
  | k + 1 => allK q k && q k
theorem allK_stop {q : Nat → Bool} {i : Nat} (h : q i = false) : ∀ {n : Nat}, i < n → allK q n = false
  | 0, hn => by omega
  | n + 1, hn => by
    rw [allK]
    by_cases e : i = n
    · subst e; rw [h, Bool.and_false]
    · rw [allK_stop h (by omega), Bool.false_and]
theorem allK_next {q : Nat → Bool} {k : Nat} (h : allK q k = true) (hq : q k = true) : allK q (k + 1) = true := by rw [allK, h, hq]; rfl
def minsB (x y : MinsD) : Bool := x.op == y.op && (x.fa == y.fa && (x.fb == y.fb && (x.fc == y.fc && x.fn == y.fn)))
def insEq (xs ys : List MinsD) (i : Nat) : Bool := match xs[i]?, ys[i]? with
  | some x, some y => minsB x y
  | _, _ => true
def sameIns (xs ys : List MinsD) : Bool := (xs.length == ys.length) && allK (insEq xs ys) xs.length
def mfnB (f g : MfnD) : Bool := f.params == g.params && (f.slots == g.slots && sameIns f.ins g.ins)
def fnEq (fs gs : List MfnD) (i : Nat) : Bool := match fs[i]?, gs[i]? with
  | some f, some g => mfnB f g
  | _, _ => true
def sameP (fs gs : List MfnD) : Bool := (fs.length == gs.length) && allK (fnEq fs gs) fs.length
theorem insEq_of {xs ys : List MinsD} {i : Nat} {x y : MinsD} (hx : xs[i]? = some x) (hy : ys[i]? = some y) : insEq xs ys i = minsB x y := by rw [insEq, hx, hy]
theorem fnEq_of {xs ys : List MfnD} {i : Nat} {x y : MfnD} (hx : xs[i]? = some x) (hy : ys[i]? = some y) : fnEq xs ys i = mfnB x y := by rw [fnEq, hx, hy]
/-- The first field in which two instructions differ. -/
theorem mins_differ {x y : MinsD} (h : minsB x y = false) : (x.op == y.op) = false ∨ ((x.op == y.op) = true ∧ (x.fa == y.fa) = false) ∨ ((x.op == y.op) = true ∧ (x.fa == y.fa) = true ∧ (x.fb == y.fb) = false) ∨
    ((x.op == y.op) = true ∧ (x.fa == y.fa) = true ∧ (x.fb == y.fb) = true ∧ (x.fc == y.fc) = false) ∨ ((x.op == y.op) = true ∧ (x.fa == y.fa) = true ∧ (x.fb == y.fb) = true ∧ (x.fc == y.fc) = true ∧ (x.fn == y.fn) = false) := by
  unfold minsB at h
  cases h1 : (x.op == y.op) with
  | false => exact .inl rfl
  | true =>
    cases h2 : (x.fa == y.fa) with
    | false => exact .inr (.inl ⟨rfl, rfl⟩)
    | true =>
      cases h3 : (x.fb == y.fb) with
      | false => exact .inr (.inr (.inl ⟨rfl, rfl, rfl⟩))
      | true =>
        cases h4 : (x.fc == y.fc) with
        | false => exact .inr (.inr (.inr (.inl ⟨rfl, rfl, rfl, rfl⟩)))
        | true =>
          rw [h1, h2, h3, h4] at h
          exact .inr (.inr (.inr (.inr ⟨rfl, rfl, rfl, rfl, h⟩)))
theorem mins_same {x y : MinsD} (h : minsB x y = true) : x = y := by
  unfold minsB at h
  simp only [Bool.and_eq_true, beq_iff_eq] at h
  obtain ⟨h1, h2, h3, h4, h5⟩ := h
  cases x
  cases y
  simp_all

theorem sz_ins (f : MfnD) : f.ins.length ≤ szMfnD f := szS_len szMinsD f.ins

end Go.Proofs.YtdkafajmhgfkoaaDoor
