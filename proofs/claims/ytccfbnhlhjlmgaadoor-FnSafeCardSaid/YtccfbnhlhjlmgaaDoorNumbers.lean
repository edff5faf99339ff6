
/-
  The reference draws a short list of small numbers (l21Numbers); wwHas looks a number up in a list; the walk of the law FnColoursUsed.
-/
import Derived.Test.YtccfbnhlhjlmgaaDoorRd
import Derived.Test.YtccfbnhlhjlmgaaDoorKinds
import Derived.Test.YtccfbnhlhjlmgaaDoorLaw
namespace Go.Proofs.YtccfbnhlhjlmgaaDoor
open Go.RowKit

/-- A short list of ints was drawn. -/
def DrewInts (w : World) (e : Ending) (w' : World) : Prop :=
  ∃ a cap xs, e = .returned (.slice a xs.length cap) ∧ IntsAt w' a xs.length cap xs ∧ xs.length ≤ 8 ∧ (∀ x ∈ xs, (Lit.int .i64 x).wf = true) ∧ Below w.heap.size w w'

/-! ### FnColoursUsed -/
theorem length_split {α : Type} (p : α → Bool) : ∀ l : List α, (l.filter p).length + (l.filter (fun x => !p x)).length = l.length := by
  intro l
  induction l with
  | nil => rfl
  | cons x l ih => by_cases h : p x <;> simp [h] <;> omega
/-- Colours and slots of a list are its different numbers. -/
theorem both_kinds (xs : List Int) : (kinds xs false).length + (kinds xs true).length = (differ (fun _ => true) xs).length := by
  obtain ⟨n1, m1⟩ := differ_spec (fun _ => true) xs
  obtain ⟨r1, k1⟩ := kinds_spec false xs
  obtain ⟨r2, k2⟩ := kinds_spec true xs
  rw [← length_split (fun y : Int => decide (0 ≤ y)) (differ (fun _ => true) xs)]
  congr 1
  · refine same_length (rising_nodup r1) (n1.filter _) (fun y => ?_)
    rw [List.mem_filter, k1, m1]
    simp
  · refine same_length (rising_nodup r2) (n1.filter _) (fun y => ?_)
    rw [List.mem_filter, k2, m1]
    simp

theorem bytes_of_row {w : World} {a : Option Addr} {len cap : Nat} {zs : List Int} (h : IsRow .u8 w a len cap zs) : BytesRd w a len (zs.take len) := by
  obtain ⟨h1, h2, h3⟩ := rowAt_of_row h
  refine ⟨h2, h1, fun x hx => ?_⟩
  have := h3 x hx
  simp [Lit.wf, IntKind.min, IntKind.max, IntKind.signed, IntKind.bits] at this
  exact ⟨by omega, by omega⟩
theorem cap_of_row {k : IntKind} {w : World} {a : Option Addr} {len cap : Nat} {zs : List Int} (h : IsRow k w a len cap zs) : len ≤ cap := by
  rcases h with ⟨_, rfl, rfl, _⟩ | ⟨_, _, h, _⟩
  · exact Nat.le_refl _
  · exact h
theorem BytesRd.later {w w' : World} {a : Option Addr} {len : Nat} {bs : List Int} (h : BytesRd w a len bs) (hb : Below w.heap.size w w') : BytesRd w' a len bs := ⟨h.length, h.row.later hb, h.byte⟩

end Go.Proofs.YtccfbnhlhjlmgaaDoor
