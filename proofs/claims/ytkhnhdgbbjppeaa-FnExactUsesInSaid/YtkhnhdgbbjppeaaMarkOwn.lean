
/-
  Marks on rows of structs that a call has made: what holds while the elements are marked one by one.
-/
import Derived.Test.YtkhnhdgbbjppeaaOwn
import Derived.Test.YtkhnhdgbbjppeaaSzS
namespace Go.Proofs.Ytkhnhdgbbjppeaa
open Go.RowKit

theorem sumOf_le5 {α : Type} {c sz : α → Nat} (h : ∀ x, c x ≤ 5 * sz x + 5) : ∀ xs : List α, sumOf c xs ≤ 5 * szS sz xs
  | [] => Nat.zero_le _
  | x :: xs => by
    have h1 := sumOf_le5 h xs
    have h2 := h x
    simp only [szS, sumOf, List.map_cons, List.sum_cons, List.length_cons] at h1 ⊢
    omega

/-- The row's block holds pre, then cur, then post. -/
structure RowMid (w : World) (lo : Nat) (e : TypeId) (s g len cap o : Nat) (pre cur post : List Value) : Prop where
  row : w.ownsRow lo e s (.slice (some ⟨g, 0, none⟩) len cap) len (pre ++ cur ++ post)
  len : pre.length = o
theorem RowMid.cell {w : World} {lo : Nat} {e : TypeId} {s g len cap o : Nat} {pre cur post : List Value} (h : RowMid w lo e s g len cap o pre cur post) {q : Nat} {v : Value} (hv : cur[q]? = some v) : w.cell? ⟨g, o + q, none⟩ = some v := by
  have hq := (List.getElem?_eq_some_iff.1 hv).1
  have hl := h.row.1
  simp only [List.length_append] at hl
  have h1 := h.len
  rw [h.row.cellAt (o + q) (by omega), List.append_assoc, List.getElem?_append_right (by omega), h1, Nat.add_sub_cancel_left, List.getElem?_append_left hq]
  exact hv
theorem RowMid.frozen {w : World} {lo : Nat} {e : TypeId} {s g len cap o : Nat} {pre cur post : List Value} (h : RowMid w lo e s g len cap o pre cur post) (q : Nat) : w.frozen? ⟨g, o + q, none⟩ = false := h.row.frozenAt _
theorem RowMid.put {w : World} {lo : Nat} {e : TypeId} {s g len cap o : Nat} {pre cur post : List Value} (h : RowMid w lo e s g len cap o pre cur post) {q : Nat} (hq : q < cur.length) (v : Value) : RowMid (w.setCell ⟨g, o + q, none⟩ v) lo e s g len cap o pre (cur.set q v) post := by
  refine ⟨?_, h.len⟩
  have h1 := (h.row.stored (o + q) v).1
  have h2 : (pre ++ cur ++ post).set (o + q) v = pre ++ cur.set q v ++ post := by
    have hl := h.len
    rw [List.append_assoc, List.set_append_right _ _ (by omega), hl, Nat.add_sub_cancel_left, List.set_append_left _ _ hq, List.append_assoc]
  rwa [h2] at h1
theorem RowMid.turned {w w' : World} {S : Nat → Prop} {lo : Nat} {e : TypeId} {s g len cap o : Nat} {pre cur post : List Value} (h : RowMid w lo e s g len cap o pre cur post) (ht : Turned S w w') (hS : ¬ S g) : RowMid w' lo e s g len cap o pre cur post :=
  ⟨own_turned h.row ht (fun k hk => by cases hk; exact hS), h.len⟩
theorem turned_store (w : World) (g o : Nat) (v : Value) : Turned (fun k => k = g) w (w.setCell ⟨g, o, none⟩ v) :=
  ⟨rfl, rfl, rfl, by rw [World.size_setCell]; exact Nat.le_refl _, fun j _ hj => heap_setCell_other w _ j _ (fun e => hj e)⟩

/-- What is left to mark. -/
structure MarkSt {α : Type} (s : Nat) (e : TypeId) (R : OwnRel α) (lo hi g len cap : Nat) (xs : List α) (w : World) (j : Nat) (wr : World) : Prop where
  turned : Turned (fun b => lo ≤ b ∧ b < hi) w wr
  rest : ∃ pre cs m, (∀ c ∈ cs, c.length = s) ∧ cs.length = len - j ∧ RowMid wr lo e s g len cap (j * s) pre [] cs.flatten ∧ g < m ∧ ListOwn R m hi wr cs (xs.drop j)
theorem MarkSt.start {α : Type} {s : Nat} {e : TypeId} {R : OwnRel α} {lo hi g len cap : Nat} {xs : List α} {w : World} (h : SliceOwn s e R lo hi w (some ⟨g, 0, none⟩) len cap xs) : MarkSt s e R lo hi g len cap xs w 0 w := by
  obtain ⟨cells, m, h1, h2, h3, h4, h5, h6⟩ := h
  exact ⟨Turned.refl _ _, [], cells, m, h4, by omega, ⟨by simpa using h2, by simp⟩, h3 g rfl, h6⟩
/-- The next element: its cells, its memory, and what comes behind. -/
theorem MarkSt.next {α : Type} {s : Nat} {e : TypeId} {R : OwnRel α} {lo hi g len cap : Nat} {xs : List α} {w wr : World} {j : Nat} (h : MarkSt s e R lo hi g len cap xs w j wr) (hl : xs.length = len) (hj : j < len) :
    ∃ x c pre cs m m', xs[j]? = some x ∧ c.length = s ∧ (∀ c ∈ cs, c.length = s) ∧ cs.length = len - (j + 1) ∧ RowMid wr lo e s g len cap (j * s) pre c cs.flatten ∧ g < m ∧ R m m' wr c x ∧ ListOwn R m' hi wr cs (xs.drop (j + 1)) := by
  obtain ⟨pre, cs, m, h1, h2, h3, h4, h5⟩ := h.rest
  have hx : xs.drop j = xs[j]'(by omega) :: xs.drop (j + 1) := List.drop_eq_getElem_cons (by omega)
  rw [hx] at h5
  match cs, h1, h2, h3, h5 with
  | [], _, h2, _, _ => simp at h2; omega
  | c :: cs, h1, h2, h3, h5 =>
    obtain ⟨m', h6, h7⟩ := h5
    refine ⟨_, c, pre, cs, m, m', List.getElem?_eq_getElem (by omega), h1 c (by simp), fun d hd => h1 d (by simp [hd]), by simp at h2; omega, ⟨?_, h3.len⟩, h4, h6, h7⟩
    have := h3.row
    simpa using this
theorem MarkSt.step {α : Type} {s : Nat} {e : TypeId} {R : OwnRel α} {lo hi g len cap : Nat} {xs : List α} {w w' : World} {j m : Nat} {pre c : List Value} {cs : List (List Value)} (hcl : c.length = s) (h1 : ∀ c ∈ cs, c.length = s) (h2 : cs.length = len - (j + 1))
    (hr : RowMid w' lo e s g len cap (j * s) pre c cs.flatten) (hm : g < m) (hL : ListOwn R m hi w' cs (xs.drop (j + 1))) (ht : Turned (fun b => lo ≤ b ∧ b < hi) w w') : MarkSt s e R lo hi g len cap xs w (j + 1) w' := by
  refine ⟨ht, pre ++ c, cs, m, h1, h2, ⟨?_, ?_⟩, hm, hL⟩
  · have := hr.row
    simpa using this
  · have := hr.len
    rw [List.length_append, hcl, this, Nat.add_mul]; omega

end Go.Proofs.Ytkhnhdgbbjppeaa
