
/-
  How many blocks dominate a block: the reference's answer and the program's.
-/
import Derived.Test.YtonlidgmfmgcmaaGreatDomsImpl

namespace Go.Proofs.YtonlidgmfmgcmaaGreat
open Go.RowKit

noncomputable def cntDom (g : List (List Int)) (b : Nat) : Nat → Nat
  | 0 => 0
  | k + 1 => cntDom g b k + (if domB g k b then 1 else 0)
theorem cntDom_le (g : List (List Int)) (b : Nat) : ∀ k, cntDom g b k ≤ k
  | 0 => Nat.le_refl _
  | k + 1 => by have := cntDom_le g b k; unfold cntDom; split <;> omega
theorem cntDom_zero {g : List (List Int)} {b : Nat} (h : reachB g (-1) b = false) : ∀ k, cntDom g b k = 0
  | 0 => rfl
  | k + 1 => by rw [cntDom, cntDom_zero h k]; simp [domB, h]
noncomputable def depthP (g : List (List Int)) (b : Int) : Int := if inP g b then (cntDom g b.toNat g.length : Int) - 1 else -1

theorem int_val {a b : Int} (h : a = b) : Value.int .i64 a = .int .i64 b := by rw [h]

theorem depthP_of {g : List (List Int)} {b : Int} (hf : Fits g) : depthP g b = if hasP g b then (cntDom g b.toNat g.length : Int) - 1 else -1 := by
  rw [depthP, inP, hasP, fits_iff.2 hf, Bool.true_and]
  by_cases ho : okN g.length b = true
  · rw [ho, Bool.true_and, if_pos rfl]
    by_cases hr : reachB g (-1) b.toNat = true
    · rw [hr, if_pos rfl]
    · rw [cntDom_zero (by simpa using hr), if_neg hr]; rfl
  · have ho' : okN g.length b = false := by simpa using ho
    rw [ho']; rfl

end Go.Proofs.YtonlidgmfmgcmaaGreat

/-
  The deepest block of which something holds: the program's search, and the reference's; the answers of MeetOf.
-/
namespace Go.Proofs.YtonlidgmfmgcmaaGreat
open Go.RowKit

/-- The deepest of the blocks 0 .. k-1 of which P holds, or -1. -/
noncomputable def bestOf (g : List (List Int)) (P : Nat → Bool) : Nat → Int
  | 0 => -1
  | k + 1 => if P k && (decide (bestOf g P k < 0) || domB g (bestOf g P k).toNat k) then (k : Int) else bestOf g P k
theorem bestOf_range (g : List (List Int)) (P : Nat → Bool) : ∀ k, bestOf g P k = -1 ∨ ∃ m : Nat, m < k ∧ P m = true ∧ bestOf g P k = (m : Int)
  | 0 => .inl rfl
  | k + 1 => by
    by_cases h : (P k && (decide (bestOf g P k < 0) || domB g (bestOf g P k).toNat k)) = true
    · refine .inr ⟨k, by omega, ?_, by rw [bestOf, if_pos h]⟩
      simp only [Bool.and_eq_true] at h
      exact h.1
    · rw [bestOf, if_neg h]
      rcases bestOf_range g P k with h1 | ⟨m, h1, h2, h3⟩
      · exact .inl h1
      · exact .inr ⟨m, by omega, h2, h3⟩
theorem bestOf_congr {g : List (List Int)} {P Q : Nat → Bool} : ∀ {k : Nat}, (∀ j, j < k → P j = Q j) → bestOf g P k = bestOf g Q k
  | 0, _ => rfl
  | k + 1, h => by
    rw [bestOf, bestOf, bestOf_congr (k := k) (fun j hj => h j (by omega)), h k (by omega)]
theorem bestOf_none {g : List (List Int)} {P : Nat → Bool} : ∀ {k : Nat}, (∀ j, j < k → P j = false) → bestOf g P k = -1
  | 0, _ => rfl
  | k + 1, h => by
    rw [bestOf, h k (by omega), Bool.false_and, if_neg (by decide)]
    exact bestOf_none (fun j hj => h j (by omega))

/-- The function value answers P of each block, and changes nothing that was there. -/
structure NearFn (w : World) (f : Nat) (caps : Array Value) (n : Nat) (P : Nat → Bool) : Prop where
  enter : ∀ v W, (callFunc f (#[v] ++ caps)).run Tryz.prog W = .ok (.enter f (#[v] ++ caps)) W
  calls : ∀ x : Nat, x < n → ∀ W, Below w.heap.size w W → Calls Tryz.prog f (#[.int .i64 (x : Int)] ++ caps) W fun e w' => e = .returned (.bool (P x)) ∧ Below W.heap.size W w'

/-! ### MeetOf -/
noncomputable def meetP (g : List (List Int)) (a b : Int) : Int := if inP g a && inP g b then bestOf g (fun k => domB g k a.toNat && domB g k b.toNat) g.length else -1
theorem meetP_of {g : List (List Int)} {a b : Int} (hf : Fits g) : meetP g a b = if hasP g a && hasP g b then bestOf g (fun k => reachB g (-1) k && (domB g k a.toNat && domB g k b.toNat)) g.length else -1 := by
  have hc : bestOf g (fun k => reachB g (-1) k && (domB g k a.toNat && domB g k b.toNat)) g.length = bestOf g (fun k => domB g k a.toNat && domB g k b.toNat) g.length := bestOf_congr (fun j _ => by
    cases h : domB g j a.toNat with
    | false => simp
    | true => rw [(domB_has h).1]; simp)
  rw [hc, meetP, inP, inP, hasP, hasP, fits_iff.2 hf, Bool.true_and, Bool.true_and]
  by_cases ho : (okN g.length a && okN g.length b) = true
  · rw [if_pos ho]
    simp only [Bool.and_eq_true] at ho
    rw [ho.1, ho.2, Bool.true_and, Bool.true_and]
    by_cases hr : (reachB g (-1) a.toNat && reachB g (-1) b.toNat) = true
    · rw [if_pos hr]
    · rw [if_neg hr]
      refine bestOf_none (fun j _ => ?_)
      cases h1 : domB g j a.toNat with
      | false => rfl
      | true =>
        cases h2 : domB g j b.toNat with
        | false => rfl
        | true => rw [(domB_has h1).2, (domB_has h2).2] at hr; simp at hr
  · rw [if_neg ho, if_neg]
    intro h
    simp only [Bool.and_eq_true] at h ho
    exact ho ⟨h.1.1, h.2.1⟩

end Go.Proofs.YtonlidgmfmgcmaaGreat

/-
  The answers of MeetOf: the reference's and the program's.
-/
namespace Go.Proofs.YtonlidgmfmgcmaaGreat
open Go.RowKit

theorem three_blocks' (w : World) (P Q R : Obj) : (((w.alloc P).alloc Q).alloc R).heap[w.heap.size]? = some P ∧ (((w.alloc P).alloc Q).alloc R).heap[w.heap.size + 1]? = some Q ∧ (((w.alloc P).alloc Q).alloc R).heap[w.heap.size + 2]? = some R ∧ (((w.alloc P).alloc Q).alloc R).heap.size = w.heap.size + 3 ∧ Below w.heap.size w (((w.alloc P).alloc Q).alloc R) := by
  have h3 := heap_alloc_new ((w.alloc P).alloc Q) R
  simp only [World.size_alloc] at h3
  refine ⟨?_, ?_, h3, by simp, (((Below.refl _ _).alloc (Nat.le_refl _) _).alloc (by simp) _).alloc (by simp; omega) _⟩
  · rw [heap_alloc_old _ _ (by simp; omega)]; exact heap_alloc2_old w P Q
  · rw [heap_alloc_old _ _ (by simp)]; exact heap_alloc2_new w P Q
theorem rowAt_new (w : World) (v : Value) (t : TypeId) : (w.alloc (.cells #[v] t)).cell? ⟨w.heap.size, 0, none⟩ = some v := cell_of_row _ _ 0 _ _ _ (heap_alloc_new w _)

end Go.Proofs.YtonlidgmfmgcmaaGreat

/-
  The nearest dominators: the reference's list and the program's.
-/
namespace Go.Proofs.YtonlidgmfmgcmaaGreat
open Go.RowKit

noncomputable def idomB (g : List (List Int)) (b a : Nat) : Bool := (a != b) && domB g a b
noncomputable def idomP (g : List (List Int)) (b : Nat) : Int := bestOf g (idomB g b) g.length
noncomputable def idoms (g : List (List Int)) : List Int := (List.range g.length).map (idomP g)
noncomputable def idomsP (g : List (List Int)) : List Int := if fits g then idoms g else []
theorem idoms_length (g : List (List Int)) : (idoms g).length = g.length := by simp [idoms]
theorem idoms_get {g : List (List Int)} {b : Nat} (h : b < g.length) : (idoms g)[b]? = some (idomP g b) := by simp [idoms, h]
theorem idomsP_le {w : World} {ba : Option Addr} {g : List (List Int)} (h : Gr w ba g) : (idomsP g).length ≤ 1048576 := by
  have := h.len
  unfold idomsP
  split
  · rw [idoms_length]; exact this
  · simp
theorem idomP_of {g : List (List Int)} {b : Nat} : bestOf g (fun k => reachB g (-1) k && idomB g b k) g.length = idomP g b := bestOf_congr (fun j _ => by
  unfold idomB
  cases h : domB g j b with
  | false => simp
  | true => rw [(domB_has h).1]; simp)
theorem idomP_unreached {g : List (List Int)} {b : Nat} (h : reachB g (-1) b = false) : idomP g b = -1 := bestOf_none (fun j _ => by simp [idomB, domB, h])
theorem ints_push {xs : List Int} {k : Nat} {x : Int} (h : xs[k]? = some x) : ((xs.take (k + 1)).map (Value.int .i64)) = (xs.take k).map (Value.int .i64) ++ [x].map (Value.int .i64) := by
  rw [take_succ_of h, List.map_append]

/-- One step of the search, as the loops take it. -/
theorem bestOf_step (g : List (List Int)) (P : Nat → Bool) (j : Nat) : bestOf g P (j + 1) = if P j && (decide (bestOf g P j < 0) || domB g (bestOf g P j).toNat j) then (j : Int) else bestOf g P j := rfl

/-! ### the program -/
end Go.Proofs.YtonlidgmfmgcmaaGreat

/-
  The blocks of which a block is the nearest dominator: the reference's list and the program's.
-/
namespace Go.Proofs.YtonlidgmfmgcmaaGreat
open Go.RowKit

/-- The numbers below k of which p holds. -/
def filtTo (p : Nat → Bool) (k : Nat) : List Int := ((List.range k).filter p).map (fun i : Nat => (i : Int))
theorem filtTo_succ (p : Nat → Bool) (k : Nat) : filtTo p (k + 1) = if p k then filtTo p k ++ [(k : Int)] else filtTo p k := by
  unfold filtTo
  rw [List.range_succ, List.filter_append]
  by_cases h : p k = true
  · simp [h]
  · simp [h]
theorem filtTo_len (p : Nat → Bool) (k : Nat) : (filtTo p k).length ≤ k := by
  unfold filtTo
  rw [List.length_map]
  have := List.length_filter_le p (List.range k)
  simpa using this
theorem filtTo_congr {p q : Nat → Bool} {k : Nat} (h : ∀ i, i < k → p i = q i) : filtTo p k = filtTo q k := by
  unfold filtTo
  rw [List.filter_congr (fun i hi => h i (by simpa using hi))]
theorem filtTo_none {p : Nat → Bool} {k : Nat} (h : ∀ i, i < k → p i = false) : filtTo p k = [] := by
  unfold filtTo
  rw [List.filter_eq_nil_iff.2 (fun i hi => by rw [h i (by simpa using hi)]; decide)]
  rfl

/-- The state of a loop that gathers numbers. -/
structure Gath (w : World) (xs : List Int) (oa : Option Addr) (on oc : Nat) (wr : World) : Prop where
  row : wr.ownsRow w.heap.size 3 1 (.slice oa on oc) on (xs.map (Value.int .i64))
  below : Below w.heap.size w wr
theorem Gath.len {w wr : World} {xs : List Int} {oa : Option Addr} {on oc : Nat} (h : Gath w xs oa on oc wr) : on = xs.length := by have := h.row.1; simp at this; omega
theorem Gath.later {w wr w' : World} {xs : List Int} {oa : Option Addr} {on oc : Nat} (h : Gath w xs oa on oc wr) (hb : Below wr.heap.size wr w') : Gath w xs oa on oc w' := ⟨ownsRow_below h.row hb, h.below.trans (hb.mono h.below.size)⟩
theorem Gath.start (w : World) : Gath w [] (some ⟨w.heap.size, 0, none⟩) 0 0 (w.alloc (.cells #[] 3)) := ⟨own_empty _ _ _ _ (Nat.le_refl _), (Below.refl _ _).alloc (Nat.le_refl _) _⟩
theorem Gath.nil (w : World) : Gath w [] none 0 0 w := ⟨World.ownsRow_nil _ _ _ _, Below.refl _ _⟩
theorem Gath.push {w wr w' : World} {xs : List Int} {oa a' : Option Addr} {on oc c' : Nat} {v : Int} (h : Gath w xs oa on oc wr) (hr : w'.ownsRow w.heap.size 3 1 (.slice a' (on + 1) c') (on + 1) (xs.map (Value.int .i64) ++ [v].map (Value.int .i64))) (hg : (wr.alloc (.cells #[.int .i64 v] 3)).grownBy w' (Value.slice oa on oc).ownBlock) : Gath w (xs ++ [v]) a' (on + 1) c' w' :=
  ⟨by rw [List.map_append]; exact hr, (h.below.alloc h.below.size _).grown hg (by have := h.below.size; simp; omega) (fun k hk => (h.row.lt k hk).1)⟩
theorem Gath.ret {w wr : World} {xs : List Int} {oa : Option Addr} {on oc : Nat} (h : Gath w xs oa on oc wr) : RetInts w xs xs.length (.returned (.slice oa on oc)) wr := by
  have := h.len
  subst this
  exact ⟨_, _, rfl, h.row, h.below⟩

def kidsOf (xs : List Int) (b : Int) : List Int := filtTo (fun i => xs.getD i 0 == b) xs.length
noncomputable def kidsP (g : List (List Int)) (b : Int) : List Int := if inP g b then kidsOf (idoms g) b else []

theorem kidsOf_idoms (g : List (List Int)) (b : Int) : kidsOf (idoms g) b = filtTo (fun i => idomP g i == b) g.length := by
  unfold kidsOf
  rw [idoms_length]
  exact filtTo_congr (fun i hi => by rw [List.getD_eq_getElem?_getD, idoms_get hi]; rfl)
theorem kidsP_le {w : World} {ba : Option Addr} {g : List (List Int)} (h : Gr w ba g) (b : Int) : (kidsP g b).length ≤ 1048576 := by
  have := h.len
  unfold kidsP
  split
  · rw [kidsOf_idoms]; have := filtTo_len (fun i => idomP g i == b) g.length; omega
  · simp
theorem kidsP_of {g : List (List Int)} {b : Int} (hf : Fits g) : kidsP g b = if hasP g b then filtTo (fun i => reachB g (-1) i && idomP g i == b) g.length else [] := by
  rw [kidsP, inP, hasP, fits_iff.2 hf, Bool.true_and, kidsOf_idoms]
  by_cases ho : okN g.length b = true
  · have hb := okN_iff.1 ho
    rw [ho, Bool.true_and, if_pos rfl]
    have hc : filtTo (fun i => reachB g (-1) i && idomP g i == b) g.length = filtTo (fun i => idomP g i == b) g.length := filtTo_congr (fun i _ => by
      cases hr : reachB g (-1) i with
      | true => simp
      | false =>
        rw [idomP_unreached hr]
        have : (-1 == b) = false := by simp; omega
        simp [this])
    by_cases hr : reachB g (-1) b.toNat = true
    · rw [if_pos hr, hc]
    · rw [if_neg hr]
      refine filtTo_none (fun i _ => ?_)
      rcases bestOf_range g (idomB g i) g.length with h1 | ⟨m, _, h2, h3⟩
      · have : idomP g i = -1 := h1
        rw [this]; simp; omega
      · have h4 : idomP g i = (m : Int) := h3
        rw [h4]
        have h5 : domB g m i = true := by simp only [idomB, Bool.and_eq_true] at h2; exact h2.2
        have h6 := (domB_has h5).1
        have : ¬ (m : Int) = b := fun e => by
          subst e
          rw [Int.toNat_natCast] at hr
          exact hr h6
        simpa using this
  · have ho' : okN g.length b = false := by simpa using ho
    rw [ho']; rfl

end Go.Proofs.YtonlidgmfmgcmaaGreat
