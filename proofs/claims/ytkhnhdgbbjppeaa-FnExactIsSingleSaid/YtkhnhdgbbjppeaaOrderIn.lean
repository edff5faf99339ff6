
/-
  The blocks in the order of the visit: the program's visit, the library's slices.Reverse, the reference's order.
-/
import Derived.Test.YtkhnhdgbbjppeaaVisits
import Derived.Test.YtkhnhdgbbjppeaaRdInts
import Derived.Test.YtkhnhdgbbjppeaaDepth
namespace Go.Proofs.Ytkhnhdgbbjppeaa
open Go.RowKit

/-- The blocks as they are left. -/
def leftOf (g : List (List Int)) : List Int := (dfs g g.length 0 (List.replicate g.length false, [])).2
theorem leftOf_len (g : List (List Int)) : (leftOf g).length ≤ g.length := by
  have h := dfs_count g g.length 0 (List.replicate g.length false, [])
  have h2 := unseen_le (List.replicate g.length false)
  simp only [List.length_nil, List.length_replicate] at h h2
  unfold leftOf
  omega
def orderP (g : List (List Int)) : List Int := if fits g then (leftOf g).reverse else []
theorem orderP_le {w : World} {ba : Option Addr} {g : List (List Int)} (h : Gr w ba g) : (orderP g).length ≤ 1048576 := by
  have := h.len
  unfold orderP
  split
  · have := leftOf_len g; simp; omega
  · simp

theorem run_store_new (w : World) (b : Nat) (old v : Value) (t : TypeId) (hb : b = w.heap.size) (hv : v.oneCell' = true) : (store ⟨b, 0, none⟩ v).run Try.prog (w.alloc (.cells #[old] t)) = .ok () (w.alloc (.cells #[v] t)) := by
  subst hb
  rw [run_store _ _ _ _ _ hv, rowAt_new w old t, frozen_of_row _ _ 0 _ _ (heap_alloc_new w _)]
  simp only [Bool.false_eq_true, if_false]
  rw [World.setCell_alloc_new]
  rfl

set_option maxRecDepth 100000 in
set_option maxHeartbeats 2000000 in
theorem visits_any (g : List (List Int)) (hf : Fits g) (p r : Int) (ba : Option Addr) (bc : Nat) (w : World) (hg : Gr w ba g) :
    Calls Try.prog 84 #[.agg #[.int .i64 p, .int .i64 r, .slice ba g.length bc]] w fun e w' => RetInts w (leftOf g) (leftOf g).length e w' := by
  have hmf : ∀ (fn : Fn) (first cap : Array Value) (w : World), (Instr.makeFunc fn first cap).run Try.prog w = .ok (.func fn first cap) w := fun _ _ _ _ => rfl
  obtain ⟨i0, hi, hz0, hz1, hz2⟩ := info_parts info_bool
  have hlen := hg.len
  have hpos := hf.pos
  have HI := Lib.hid (And.intro hi (And.intro hz0 (And.intro hz1 hz2)))
  clear hi hz0 hz1 hz2
  have HH := Lib.hid (two_blocks w (.cells #[.int .i64 p, .int .i64 r, .slice ba g.length bc] 51) (.cells #[.slice none 0 0] 40))
  go_enter Try.func84, Try.ntmps84
  go_wp2_with (at_make; refine wpList_make_full _ rfl _ _ 124 rfl w.heap.size 4 i0 (.bool false) 1 und_bools HI.out.1 HI.out.2.1 HI.out.2.2.1 _ _ _ _ g.length rfl rfl rfl rfl (by rw [HI.out.2.2.2]; omega) (by unfold maxLen; omega) (by simp; omega) ?_; intro w1 hown hg1; (generalize (w.alloc (.cells #[.int .i64 p, .int .i64 r, .slice ba g.length bc] 51)).alloc (.cells #[.slice none 0 0] 40) = WA at HH hown hg1 ⊢); (have hA := HH.out); rw [hA.2.2.1, made_bools] at hown; rw [hA.2.2.1]; (have hb1 : Below (w.heap.size + 2) WA w1 := (Below.refl _ _).grown hg1 (by omega) (by simp)); (have hsf : (store ⟨w1.heap.size + 1, 0, none⟩ (.func (.func 130) #[] #[.pointer (some ⟨w1.heap.size, 0, none⟩), .pointer (some ⟨w.heap.size, 0, none⟩), .pointer (some ⟨w1.heap.size + 1, 0, none⟩), .pointer (some ⟨w.heap.size + 1, 0, none⟩)])).run Try.prog ((w1.alloc (.cells #[.slice (some ⟨w.heap.size + 2, 0, none⟩) g.length g.length] 124)).alloc (.cells #[.nilFunc] 129)) = .ok () ((w1.alloc (.cells #[.slice (some ⟨w.heap.size + 2, 0, none⟩) g.length g.length] 124)).alloc (.cells #[(.func (.func 130) #[] #[.pointer (some ⟨w1.heap.size, 0, none⟩), .pointer (some ⟨w.heap.size, 0, none⟩), .pointer (some ⟨w1.heap.size + 1, 0, none⟩), .pointer (some ⟨w.heap.size + 1, 0, none⟩)])] 129)) := run_store_new _ _ _ _ _ (by rw [World.size_alloc]) rfl))
  have hw1 : w.heap.size + 3 ≤ w1.heap.size := by have := (hown.lt (w.heap.size + 2) rfl).2; omega
  have hbw : Below w.heap.size w w1 := hA.2.2.2.trans (hb1.mono (by omega))
  have hB0 := (hb1.block _ (by omega)).trans hA.1
  have hB1 := (hb1.block _ (by omega)).trans hA.2.1
  have HV : Hid (VS w #[.int .i64 p, .int .i64 r, .slice ba g.length bc] g.length w.heap.size w1.heap.size (w1.heap.size + 1) (w.heap.size + 1) (w.heap.size + 2) (.func (.func 130) #[] #[.pointer (some ⟨w1.heap.size, 0, none⟩), .pointer (some ⟨w.heap.size, 0, none⟩), .pointer (some ⟨w1.heap.size + 1, 0, none⟩), .pointer (some ⟨w.heap.size + 1, 0, none⟩)]) (List.replicate g.length false, [])
      ((w1.alloc (.cells #[.slice (some ⟨w.heap.size + 2, 0, none⟩) g.length g.length] 124)).alloc (.cells #[.func (.func 130) #[] #[.pointer (some ⟨w1.heap.size, 0, none⟩), .pointer (some ⟨w.heap.size, 0, none⟩), .pointer (some ⟨w1.heap.size + 1, 0, none⟩), .pointer (some ⟨w.heap.size + 1, 0, none⟩)]] 129))) := by
    refine Lib.hid ⟨(hbw.alloc (by omega) _).alloc (by simp; omega) _, ?_, heap_alloc2_old w1 _ _, heap_alloc2_new w1 _ _, ⟨none, 0, ?_, World.ownsRow_nil _ _ _ _⟩, (hown.alloc _).alloc _, by omega, by omega, by omega, by omega⟩
    · rw [heap_alloc_old _ _ (by simp; omega), heap_alloc_old _ _ (by omega)]; exact hB0
    · rw [heap_alloc_old _ _ (by simp; omega), heap_alloc_old _ _ (by omega)]; exact hB1
  have hen : ∀ v W, (callFunc 130 (#[v] ++ #[.pointer (some ⟨w1.heap.size, 0, none⟩), .pointer (some ⟨w.heap.size, 0, none⟩), .pointer (some ⟨w1.heap.size + 1, 0, none⟩), .pointer (some ⟨w.heap.size + 1, 0, none⟩)])).run Try.prog W = .ok (.enter 130 (#[v] ++ #[.pointer (some ⟨w1.heap.size, 0, none⟩), .pointer (some ⟨w.heap.size, 0, none⟩), .pointer (some ⟨w1.heap.size + 1, 0, none⟩), .pointer (some ⟨w.heap.size + 1, 0, none⟩)])) W := fun _ _ => rfl
  clear hb1 hw1 hbw hB0 hB1 hA hown hg1
  go_wp2_with fail
  refine (visits1_any g hf p r ba bc w hg _ _ _ _ _ g.length 0 (List.replicate g.length false, []) _ HV.out (by have := unseen_le (List.replicate g.length false); simp at this ⊢; omega) hpos (by unfold seenAt; simp [hpos]) (by have := unseen_le (List.replicate g.length false); simpa using this)).mono ?_
  rintro e w2 ⟨rfl, hv⟩
  obtain ⟨oa, oc, hx, hown⟩ := hv.o
  have hx2 : w2.cell? ⟨w.heap.size + 1, 0, none⟩ = some (.slice oa (leftOf g).length oc) := cell_of_row _ _ 0 _ _ _ hx
  have HO := Lib.hid (And.intro (show w2.ownsRow w.heap.size 3 1 (.slice oa (leftOf g).length oc) (leftOf g).length ((leftOf g).map (Value.int .i64)) from hown) hv.below)
  clear hv hx hown
  go_wp2
  go_ret
  exact ⟨_, _, rfl, HO.out.1, HO.out.2⟩

/-! ### slices.Reverse -/
/-- The list with its first i and last i elements exchanged. -/
def revTo (xs : List Int) (i : Nat) : List Int := (List.range xs.length).map (fun k => if k < i ∨ xs.length - i ≤ k then xs.getD (xs.length - 1 - k) 0 else xs.getD k 0)
theorem revTo_len (xs : List Int) (i : Nat) : (revTo xs i).length = xs.length := by simp [revTo]
theorem revTo_get {xs : List Int} {i k : Nat} (hk : k < xs.length) : (revTo xs i)[k]? = some (if k < i ∨ xs.length - i ≤ k then xs.getD (xs.length - 1 - k) 0 else xs.getD k 0) := by simp [revTo, hk]
theorem revTo_zero (xs : List Int) : revTo xs 0 = xs := by
  apply List.ext_getElem?
  intro k
  by_cases hk : k < xs.length
  · rw [revTo_get hk, if_neg (by omega), List.getD_eq_getElem?_getD, List.getElem?_eq_getElem hk]; rfl
  · rw [List.getElem?_eq_none (by rw [revTo_len]; omega), List.getElem?_eq_none (by omega)]
theorem revTo_end {xs : List Int} {i : Nat} (h : xs.length ≤ 2 * i + 1) : revTo xs i = xs.reverse := by
  apply List.ext_getElem?
  intro k
  by_cases hk : k < xs.length
  · rw [revTo_get hk, List.getElem?_reverse hk]
    have h2 : xs.length - 1 - k < xs.length := by omega
    rw [List.getElem?_eq_getElem h2]
    split
    · rw [List.getD_eq_getElem?_getD, List.getElem?_eq_getElem h2]; rfl
    · have e : xs.length - 1 - k = k := by omega
      rw [List.getD_eq_getElem?_getD, List.getElem?_eq_getElem hk]
      simp only [Option.getD_some, e]
  · rw [List.getElem?_eq_none (by rw [revTo_len]; omega), List.getElem?_eq_none (by simp; omega)]
theorem revTo_succ {xs : List Int} {i : Nat} (h : 2 * i + 1 < xs.length) : ((revTo xs i).set i (xs.getD (xs.length - 1 - i) 0)).set (xs.length - 1 - i) (xs.getD i 0) = revTo xs (i + 1) := by
  apply List.ext_getElem?
  intro k
  by_cases hk : k < xs.length
  · rw [revTo_get hk, List.getElem?_set, List.getElem?_set, List.length_set, revTo_len]
    by_cases h1 : xs.length - 1 - i = k
    · rw [if_pos h1, if_pos (by omega), if_pos (by omega)]
      have : xs.length - 1 - k = i := by omega
      rw [this]
    · rw [if_neg h1]
      by_cases h2 : i = k
      · rw [if_pos h2, if_pos (by omega), if_pos (by omega), h2]
      · rw [if_neg h2, revTo_get hk]
        by_cases h3 : k < i ∨ xs.length - i ≤ k
        · rw [if_pos h3, if_pos (by omega)]
        · rw [if_neg h3, if_neg (by omega)]
  · rw [List.getElem?_eq_none (by rw [List.length_set, List.length_set, revTo_len]; omega), List.getElem?_eq_none (by rw [revTo_len]; omega)]

end Go.Proofs.Ytkhnhdgbbjppeaa
