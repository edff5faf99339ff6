/-
  What the laws' rows hand over of an argument that is a slice of slices of ints.
-/
import Derived.Test.YthadaohnanpmiaaLaw
import Derived.Test.YthadaohnanpmiaaMat
import Derived.Deep.Matrix
namespace Go.Proofs.Ythadaohnanpmiaa
open Go.RowKit

/-- A slice of slices that came in. -/
structure RowsIn (w : World) (a : Option Addr) (len cap : Nat) (rows : List Hd) : Prop where
  rd : MatRd w a len rows
  rowLen : ∀ r ∈ rows, r.xs.length ≤ 9223372036854775807
  lenMax : len ≤ 9223372036854775807

theorem total_mem {rows : List Hd} {r : Hd} (h : r ∈ rows) : r.xs.length ≤ total rows := by
  induction rows with
  | nil => cases h
  | cons x rows ih =>
    simp only [total, List.map_cons, List.sum_cons]
    rcases List.mem_cons.1 h with rfl | h
    · omega
    · have := ih h; simp only [total] at this; omega

open Go.Deep in
theorem rowsIn_of_trod {H : Type} {enc : TypeId × Value → H} {W : World} {base : Nat} {held : Bool} {a : Option Addr} {len cap : Nat} {d : DataW H} {ps : List MemPlace}
    (h : DataW.Trod enc Try.prog W base (fun _ => true) held 31 (.slice a len cap) d ps) : ∃ rows, RowsIn W a len cap rows := by
  obtain ⟨fuel, hf⟩ := h
  rcases open_int_rows Try.underlying31 Try.underlying22 Try.underlying3 (by kernel_rfl) (by kernel_rfl) hf with ⟨hcs, _⟩ | ⟨x, l, c, A, L, C, Z, hcs, _, hl, hm, _, hrow⟩
  · simp [Value.cells] at hcs
    obtain ⟨rfl, rfl, rfl⟩ := hcs
    exact ⟨[], ⟨rfl, .inl rfl, by simp⟩, by simp, Nat.zero_le _⟩
  · simp [Value.cells] at hcs
    obtain ⟨rfl, rfl, rfl⟩ := hcs
    have hrd : ∀ r, r < cap → IsRow .i64 W (A r) (L r) (C r) (Z r) := by
      intro r hr
      obtain ⟨_, h1, h2, h3, h4, h5, h6⟩ := hrow r hr
      cases hA : A r with
      | none =>
        have hc0 := h5 hA
        exact .inl ⟨rfl, by omega, hc0, List.eq_nil_of_length_eq_zero (by omega)⟩
      | some a' => exact .inr ⟨a', rfl, h1, h2, h3, fun i hi => (h6 a' hA).2 i (by omega), h4⟩
    have hlen : ∀ r, r < cap → ((Z r).take (L r)).length = L r := fun r hr => (rowAt_of_row (hrd r hr)).2.1
    have hmax : ∀ r, r < cap → L r ≤ 9223372036854775807 := fun r hr => by
      obtain ⟨_, h1, h2, _⟩ := hrow r hr
      unfold maxLen at h2; omega
    refine ⟨(List.range len).map (fun r => ⟨A r, C r, (Z r).take (L r)⟩), ⟨by simp, ?_, ?_⟩, ?_, by unfold maxLen at hm; omega⟩
    · by_cases h0 : len = 0
      · subst h0; exact .inl (by simp)
      · obtain ⟨b, off, spot⟩ := x
        have h1 := (hrow 0 (by omega)).1
        have hspot : spot = none := by simpa [Addr.add] using World.cell?_spot h1
        subst hspot
        refine .inr ⟨b, off, rfl, fun i v hv => ?_⟩
        rw [List.map_map, List.getElem?_map] at hv
        obtain ⟨r, hr, rfl⟩ := Option.map_eq_some_iff.1 hv
        obtain ⟨hi, hr2⟩ := List.getElem?_eq_some_iff.1 hr
        simp at hi hr2
        subst hr2
        have h2 := (hrow i (by omega)).1
        have hadd : (⟨b, off, none⟩ : Addr).add i = ⟨b, off + i, none⟩ := by unfold Addr.add; split <;> simp_all
        rw [hadd] at h2
        rw [h2]
        simp only [Function.comp, Hd.val, hlen i (by omega)]
    · intro r hr
      obtain ⟨i, hi, rfl⟩ := List.mem_map.1 hr
      simp at hi
      have := ints_of_row (hrd i (by omega))
      simp only
      rw [hlen i (by omega)]
      exact this
    · intro r hr
      obtain ⟨i, hi, rfl⟩ := List.mem_map.1 hr
      simp at hi
      simp only
      rw [hlen i (by omega)]
      exact hmax i (by omega)

end Go.Proofs.Ythadaohnanpmiaa
