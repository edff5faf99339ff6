
/-
  The heads of the loops: the reference's answer, and the program's.
-/
import Derived.Test.YtonlidgmfmgcmaaHeads
namespace Go.Proofs.Ytonlidgmfmgcmaa
open Go.RowKit

/-- The same as Gath, and the first block of the call stands. -/
structure GathX (t : TypeId) (C : Array Value) (w : World) (xs : List Int) (oa : Option Addr) (on oc : Nat) (wr : World) : Prop where
  g : Gath w xs oa on oc wr
  cblk : wr.heap[w.heap.size]? = some (.cells C t (0, 0))
theorem GathX.lt {t : TypeId} {C : Array Value} {w wr : World} {xs : List Int} {oa : Option Addr} {on oc : Nat} (h : GathX t C w xs oa on oc wr) : w.heap.size < wr.heap.size := (Array.getElem?_eq_some_iff.1 h.cblk).1
theorem GathX.later {t : TypeId} {C : Array Value} {w wr w' : World} {xs : List Int} {oa : Option Addr} {on oc : Nat} (h : GathX t C w xs oa on oc wr) (hb : Below wr.heap.size wr w') : GathX t C w xs oa on oc w' := ⟨h.g.later hb, (hb.block _ h.lt).trans h.cblk⟩
theorem GathX.nil (t : TypeId) (C : Array Value) (w : World) : GathX t C w [] none 0 0 (w.alloc (.cells C t)) := ⟨⟨World.ownsRow_nil _ _ _ _, (Below.refl _ _).alloc (Nat.le_refl _) _⟩, heap_alloc_new w _⟩
theorem GathX.push {t : TypeId} (ht : t ≠ 3) {C : Array Value} {w wr w' : World} {xs : List Int} {oa a' : Option Addr} {on oc c' : Nat} {v : Int} (h : GathX t C w xs oa on oc wr) (hr : w'.ownsRow w.heap.size 3 1 (.slice a' (on + 1) c') (on + 1) (xs.map (Value.int .i64) ++ [v].map (Value.int .i64))) (hg : (wr.alloc (.cells #[.int .i64 v] 3)).grownBy w' (Value.slice oa on oc).ownBlock) : GathX t C w (xs ++ [v]) a' (on + 1) c' w' := by
  refine ⟨h.g.push hr hg, ?_⟩
  rw [hg.block _ (by have := h.lt; simp; omega) (fun e => by
    obtain ⟨cur, hc⟩ := own_type h.g.row e.symm
    rw [h.cblk] at hc
    simp at hc
    exact ht hc.2), heap_alloc_old wr _ h.lt]
  exact h.cblk

/-! ### the program -/
theorem domP_nat {g : List (List Int)} (hf : Fits g) {a b : Nat} (ha : a < g.length) (hb : b < g.length) : domP g (a : Int) (b : Int) = domB g a b := by
  have h1 : inP g (a : Int) = true := inP_true.2 ⟨hf, by omega, by omega⟩
  have h2 : inP g (b : Int) = true := inP_true.2 ⟨hf, by omega, by omega⟩
  rw [domP, h1, h2]; simp
theorem headB_of {g : List (List Int)} (hf : Fits g) {k : Nat} (hk : k < g.length) : (preds g (k : Int)).any (fun x => domP g (k : Int) x) = headB g k := by
  unfold headB
  have key : ∀ l : List Int, (∀ x ∈ l, ∃ i : Nat, i < g.length ∧ x = (i : Int)) → l.any (fun x => domP g (k : Int) x) = l.any (fun b => domB g k b.toNat) := by
    intro l
    induction l with
    | nil => intro _; rfl
    | cons y l ih =>
      intro h
      obtain ⟨i, hi, rfl⟩ := h y (by simp)
      rw [List.any_cons, List.any_cons, ih (fun x hx => h x (by simp [hx])), domP_nat hf hk hi, Int.toNat_natCast]
  exact key _ (fun x hx => preds_mem hx)

end Go.Proofs.Ytonlidgmfmgcmaa
