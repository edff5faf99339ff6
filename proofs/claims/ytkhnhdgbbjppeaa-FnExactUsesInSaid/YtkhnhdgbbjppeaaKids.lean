
/-
  The blocks of which a block is the nearest dominator: the reference's list and the program's.
-/
import Derived.Test.YtkhnhdgbbjppeaaIdoms
namespace Go.Proofs.Ytkhnhdgbbjppeaa
open Go.RowKit

/-- The numbers below k of which p holds. -/
def filtTo (p : Nat → Bool) (k : Nat) : List Int := ((List.range k).filter p).map (fun i : Nat => (i : Int))
theorem filtTo_succ (p : Nat → Bool) (k : Nat) : filtTo p (k + 1) = if p k then filtTo p k ++ [(k : Int)] else filtTo p k := by
  unfold filtTo
  rw [List.range_succ, List.filter_append]
  by_cases h : p k = true
  · simp [h]
  · simp [h]
theorem filtTo_len (p : Nat → Bool) (k : Nat) : (filtTo p k).length ≤ k := by
  unfold filtTo
  rw [List.length_map]
  have := List.length_filter_le p (List.range k)
  simpa using this
theorem filtTo_congr {p q : Nat → Bool} {k : Nat} (h : ∀ i, i < k → p i = q i) : filtTo p k = filtTo q k := by
  unfold filtTo
  rw [List.filter_congr (fun i hi => h i (by simpa using hi))]
theorem filtTo_none {p : Nat → Bool} {k : Nat} (h : ∀ i, i < k → p i = false) : filtTo p k = [] := by
  unfold filtTo
  rw [List.filter_eq_nil_iff.2 (fun i hi => by rw [h i (by simpa using hi)]; decide)]
  rfl

/-- The state of a loop that gathers numbers. -/
structure Gath (w : World) (xs : List Int) (oa : Option Addr) (on oc : Nat) (wr : World) : Prop where
  row : wr.ownsRow w.heap.size 3 1 (.slice oa on oc) on (xs.map (Value.int .i64))
  below : Below w.heap.size w wr
theorem Gath.len {w wr : World} {xs : List Int} {oa : Option Addr} {on oc : Nat} (h : Gath w xs oa on oc wr) : on = xs.length := by have := h.row.1; simp at this; omega
theorem Gath.later {w wr w' : World} {xs : List Int} {oa : Option Addr} {on oc : Nat} (h : Gath w xs oa on oc wr) (hb : Below wr.heap.size wr w') : Gath w xs oa on oc w' := ⟨ownsRow_below h.row hb, h.below.trans (hb.mono h.below.size)⟩
theorem Gath.start (w : World) : Gath w [] (some ⟨w.heap.size, 0, none⟩) 0 0 (w.alloc (.cells #[] 3)) := ⟨own_empty _ _ _ _ (Nat.le_refl _), (Below.refl _ _).alloc (Nat.le_refl _) _⟩
theorem Gath.nil (w : World) : Gath w [] none 0 0 w := ⟨World.ownsRow_nil _ _ _ _, Below.refl _ _⟩
theorem Gath.push {w wr w' : World} {xs : List Int} {oa a' : Option Addr} {on oc c' : Nat} {v : Int} (h : Gath w xs oa on oc wr) (hr : w'.ownsRow w.heap.size 3 1 (.slice a' (on + 1) c') (on + 1) (xs.map (Value.int .i64) ++ [v].map (Value.int .i64))) (hg : (wr.alloc (.cells #[.int .i64 v] 3)).grownBy w' (Value.slice oa on oc).ownBlock) : Gath w (xs ++ [v]) a' (on + 1) c' w' :=
  ⟨by rw [List.map_append]; exact hr, (h.below.alloc h.below.size _).grown hg (by have := h.below.size; simp; omega) (fun k hk => (h.row.lt k hk).1)⟩
theorem Gath.ret {w wr : World} {xs : List Int} {oa : Option Addr} {on oc : Nat} (h : Gath w xs oa on oc wr) : RetInts w xs xs.length (.returned (.slice oa on oc)) wr := by
  have := h.len
  subst this
  exact ⟨_, _, rfl, h.row, h.below⟩

def kidsOf (xs : List Int) (b : Int) : List Int := filtTo (fun i => xs.getD i 0 == b) xs.length
noncomputable def kidsP (g : List (List Int)) (b : Int) : List Int := if inP g b then kidsOf (idoms g) b else []

theorem kidsOf_idoms (g : List (List Int)) (b : Int) : kidsOf (idoms g) b = filtTo (fun i => idomP g i == b) g.length := by
  unfold kidsOf
  rw [idoms_length]
  exact filtTo_congr (fun i hi => by rw [List.getD_eq_getElem?_getD, idoms_get hi]; rfl)
theorem kidsP_le {w : World} {ba : Option Addr} {g : List (List Int)} (h : Gr w ba g) (b : Int) : (kidsP g b).length ≤ 1048576 := by
  have := h.len
  unfold kidsP
  split
  · rw [kidsOf_idoms]; have := filtTo_len (fun i => idomP g i == b) g.length; omega
  · simp
theorem kidsP_of {g : List (List Int)} {b : Int} (hf : Fits g) : kidsP g b = if hasP g b then filtTo (fun i => reachB g (-1) i && idomP g i == b) g.length else [] := by
  rw [kidsP, inP, hasP, fits_iff.2 hf, Bool.true_and, kidsOf_idoms]
  by_cases ho : okN g.length b = true
  · have hb := okN_iff.1 ho
    rw [ho, Bool.true_and, if_pos rfl]
    have hc : filtTo (fun i => reachB g (-1) i && idomP g i == b) g.length = filtTo (fun i => idomP g i == b) g.length := filtTo_congr (fun i _ => by
      cases hr : reachB g (-1) i with
      | true => simp
      | false =>
        rw [idomP_unreached hr]
        have : (-1 == b) = false := by simp; omega
        simp [this])
    by_cases hr : reachB g (-1) b.toNat = true
    · rw [if_pos hr, hc]
    · rw [if_neg hr]
      refine filtTo_none (fun i _ => ?_)
      rcases bestOf_range g (idomB g i) g.length with h1 | ⟨m, _, h2, h3⟩
      · have : idomP g i = -1 := h1
        rw [this]; simp; omega
      · have h4 : idomP g i = (m : Int) := h3
        rw [h4]
        have h5 : domB g m i = true := by simp only [idomB, Bool.and_eq_true] at h2; exact h2.2
        have h6 := (domB_has h5).1
        have : ¬ (m : Int) = b := fun e => by
          subst e
          rw [Int.toNat_natCast] at hr
          exact hr h6
        simpa using this
  · have ho' : okN g.length b = false := by simpa using ho
    rw [ho']; rfl

end Go.Proofs.Ytkhnhdgbbjppeaa
