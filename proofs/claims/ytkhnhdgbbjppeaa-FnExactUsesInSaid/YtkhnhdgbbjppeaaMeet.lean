
/-
  The answers of MeetOf: the reference's and the program's.
-/
import Derived.Test.YtkhnhdgbbjppeaaNearest
namespace Go.Proofs.Ytkhnhdgbbjppeaa
open Go.RowKit

theorem three_blocks' (w : World) (P Q R : Obj) : (((w.alloc P).alloc Q).alloc R).heap[w.heap.size]? = some P ∧ (((w.alloc P).alloc Q).alloc R).heap[w.heap.size + 1]? = some Q ∧ (((w.alloc P).alloc Q).alloc R).heap[w.heap.size + 2]? = some R ∧ (((w.alloc P).alloc Q).alloc R).heap.size = w.heap.size + 3 ∧ Below w.heap.size w (((w.alloc P).alloc Q).alloc R) := by
  have h3 := heap_alloc_new ((w.alloc P).alloc Q) R
  simp only [World.size_alloc] at h3
  refine ⟨?_, ?_, h3, by simp, (((Below.refl _ _).alloc (Nat.le_refl _) _).alloc (by simp) _).alloc (by simp; omega) _⟩
  · rw [heap_alloc_old _ _ (by simp; omega)]; exact heap_alloc2_old w P Q
  · rw [heap_alloc_old _ _ (by simp)]; exact heap_alloc2_new w P Q
theorem rowAt_new (w : World) (v : Value) (t : TypeId) : (w.alloc (.cells #[v] t)).cell? ⟨w.heap.size, 0, none⟩ = some v := cell_of_row _ _ 0 _ _ _ (heap_alloc_new w _)

end Go.Proofs.Ytkhnhdgbbjppeaa
