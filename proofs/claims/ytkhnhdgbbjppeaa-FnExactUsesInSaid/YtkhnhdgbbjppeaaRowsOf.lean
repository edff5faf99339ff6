
/-
  Slices of elements of several cells (structs): what it means that one reads as a list.
-/
import Derived.Test.YtkhnhdgbbjppeaaCore
namespace Go.Proofs.Ytkhnhdgbbjppeaa
open Go.RowKit

theorem flatten_get {α : Type} {s : Nat} : ∀ {cells : List (List α)} {i j : Nat} {c : List α}, (∀ c ∈ cells, c.length = s) → cells[i]? = some c → j < s → cells.flatten[i * s + j]? = c[j]?
  | [], _, _, _, _, h, _ => by simp at h
  | d :: cells, 0, j, c, hl, h, hj => by
    simp at h
    subst h
    have h1 := hl d (by simp)
    rw [List.flatten_cons, Nat.zero_mul, Nat.zero_add, List.getElem?_append_left (by omega)]
  | d :: cells, i + 1, j, c, hl, h, hj => by
    have h1 := hl d (by simp)
    rw [List.flatten_cons, List.getElem?_append_right (by rw [Nat.add_mul]; omega), show (i + 1) * s + j - d.length = i * s + j by rw [Nat.add_mul, h1]; omega]
    exact flatten_get (fun x hx => hl x (by simp [hx])) (by simpa using h) hj

theorem flatten_len {α : Type} {s : Nat} : ∀ {cells : List (List α)}, (∀ c ∈ cells, c.length = s) → cells.flatten.length = cells.length * s
  | [], _ => by simp
  | c :: cells, h => by
    rw [List.flatten_cons, List.length_append, h c (by simp), flatten_len (fun x hx => h x (by simp [hx])), List.length_cons, Nat.add_mul]; omega

/-- A slice of elements of s cells reads as a list, element for element by R. -/
structure SliceRd {α : Type} (s : Nat) (R : World → List Value → α → Prop) (w : World) (a : Option Addr) (len : Nat) (xs : List α) : Prop where
  length : xs.length = len
  row : ∃ cells : List (List Value), RowAt w a cells.flatten ∧ cells.length = len ∧ (∀ c ∈ cells, c.length = s) ∧ ∀ (i : Nat) c x, cells[i]? = some c → xs[i]? = some x → R w c x
/-- What reads so reads so later. -/
def Lasts {α : Type} (R : World → List Value → α → Prop) : Prop := ∀ w w' c x, Below w.heap.size w w' → R w c x → R w' c x
theorem SliceRd.later {α : Type} {s : Nat} {R : World → List Value → α → Prop} (hR : Lasts R) {w w' : World} {a : Option Addr} {len : Nat} {xs : List α} (h : SliceRd s R w a len xs) (hb : Below w.heap.size w w') : SliceRd s R w' a len xs := by
  obtain ⟨hl, cells, h1, h2, h3, h4⟩ := h
  exact ⟨hl, cells, h1.later hb, h2, h3, fun i c x hc hx => hR _ _ _ _ hb (h4 i c x hc hx)⟩
theorem SliceRd.place {α : Type} {s : Nat} {R : World → List Value → α → Prop} {w : World} {a : Option Addr} {len : Nat} {xs : List α} (h : SliceRd s R w a len xs) (hs : 0 < s) {i : Nat} (hi : i < len) :
    ∃ b off cs x, a = some ⟨b, off, none⟩ ∧ xs[i]? = some x ∧ cs.length = s ∧ (∀ j v, cs[j]? = some v → w.cell? ⟨b, off + i * s + j, none⟩ = some v) ∧ R w cs x := by
  obtain ⟨hl, cells, h1, h2, h3, h4⟩ := h
  have hc : cells[i]? = some (cells[i]'(by omega)) := List.getElem?_eq_getElem _
  have hx : xs[i]? = some (xs[i]'(by omega)) := List.getElem?_eq_getElem _
  have hcl := h3 _ (List.getElem_mem (show i < cells.length by omega))
  rcases h1 with h1 | ⟨b, off, rfl, h1⟩
  · exfalso
    have h5 := flatten_get (j := 0) h3 hc hs
    rw [h1, List.getElem?_nil, List.getElem?_eq_getElem (by omega)] at h5
    cases h5
  · refine ⟨b, off, _, _, rfl, hx, hcl, fun j v hv => ?_, h4 i _ _ hc hx⟩
    have hj := (List.getElem?_eq_some_iff.1 hv).1
    rw [Nat.add_assoc]
    exact h1 _ _ (by rw [flatten_get h3 hc (by omega)]; exact hv)

end Go.Proofs.Ytkhnhdgbbjppeaa
