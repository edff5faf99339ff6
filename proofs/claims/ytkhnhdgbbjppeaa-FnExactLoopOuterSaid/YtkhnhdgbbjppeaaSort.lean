
/-
  The library's slices.Sort and slices.Compact over ints that a call has made; the program's once: a list sorted, without repeats.
-/
import Derived.Test.YtkhnhdgbbjppeaaLays
import Derived.Test.YtkhnhdgbbjppeaaIntClone
import Derived.Test.YtkhnhdgbbjppeaaSortU
import Derived.Sort.OwnSortedInts
import Derived.Lib.OwnBridge
import Derived.Shelf.Slices.In.SortNone
namespace Go.Proofs.Ytkhnhdgbbjppeaa
open Go.RowKit Go.Shelf Go.Sort

def sortI (xs : List Int) : List Int := xs.mergeSort fun x y => decide (x ≤ y)
theorem sortI_len (xs : List Int) : (sortI xs).length = xs.length := by simp [sortI]
theorem sortU_eq (xs : List Int) : sortU xs = Lib.compact (sortI xs) := rfl

theorem sort_any (lo : Nat) (a : Option Addr) (cap : Nat) (xs : List Int) (w : World) (hown : w.ownsRow lo 3 1 (.slice a xs.length cap) xs.length (xs.map (Value.int .i64))) (hs : xs.length ≤ 1099511627776) :
    Calls Try.prog 128 #[.slice a xs.length cap] w fun e w' => e = .returned (.tuple #[]) ∧ w'.ownsRow lo 3 1 (.slice a xs.length cap) xs.length ((sortI xs).map (Value.int .i64)) ∧ w.grownBy w' (Value.slice a xs.length cap).ownBlock := by
  rcases hown.2 with ⟨hv, h0⟩ | ⟨g, cap', cur, hv, hb, hgg, h1, h2, h3, h4⟩
  · simp only [Value.slice.injEq] at hv
    obtain ⟨rfl, hl, rfl⟩ := hv
    have hx : xs = [] := List.length_eq_zero_iff.1 h0
    subst hx
    refine (calls_of_every_depth fun D => AnyS.slices_Sort_int_none_in laysSort D none 0 w).mono ?_
    rintro e w' ⟨rfl, rfl⟩
    exact ⟨rfl, by simpa [sortI] using hown, World.grownBy.refl _ _⟩
  · simp only [Value.slice.injEq] at hv
    obtain ⟨rfl, _, rfl⟩ := hv
    obtain ⟨_, _, hv2, _, hlt, _, _, _, hH⟩ := Lib.holds_of_ownsRow hown (by simp)
    cases hv2
    refine (Any.slices_Sort_int laysSort g 0 cap xs w hH hlt (by omega)).mono ?_
    rintro e w' ⟨rfl, n, os, rfl⟩
    exact ⟨rfl, ownsRow_sortedI (by simp) hb hgg h1 h2 h3, grownBy_sortedI _⟩

theorem compact_any (lo : Nat) (a : Option Addr) (cap : Nat) (xs : List Int) (w : World) (hown : w.ownsRow lo 3 1 (.slice a xs.length cap) xs.length (xs.map (Value.int .i64))) (hs : xs.length ≤ 1099511627776) :
    Calls Try.prog 129 #[.slice a xs.length cap] w fun e w' => e = .returned (.slice a (Lib.compact xs).length cap) ∧ w'.ownsRow lo 3 1 (.slice a (Lib.compact xs).length cap) (Lib.compact xs).length ((Lib.compact xs).map (Value.int .i64)) ∧ w.grownBy w' (Value.slice a xs.length cap).ownBlock := by
  rcases hown.2 with ⟨hv, h0⟩ | ⟨g, cap', cur, hv, hb, hgg, h1, h2, h3, h4⟩
  · simp only [Value.slice.injEq] at hv
    obtain ⟨rfl, hl, rfl⟩ := hv
    have hx : xs = [] := List.length_eq_zero_iff.1 h0
    subst hx
    refine (Any.slices_Compact_int_empty laysCompact none 0 w).mono ?_
    rintro e w' ⟨rfl, rfl⟩
    exact ⟨rfl, World.ownsRow_nil _ _ _ _, World.grownBy.refl _ _⟩
  · simp only [Value.slice.injEq] at hv
    obtain ⟨rfl, _, rfl⟩ := hv
    obtain ⟨_, _, hv2, _, hlt, _, _, _, hH⟩ := Lib.holds_of_ownsRow hown (by simp)
    cases hv2
    have hle := Lib.compact_length_le xs
    refine (Any.slices_Compact_int laysCompact g 0 cap xs w hH (by omega) h1).mono ?_
    rintro e w' ⟨rfl, q, rfl⟩
    have h := Lib.ownsRow_putRow (q := q) (k := (Lib.compact xs).length) (ys := Lib.compact xs ++ List.replicate (xs.length - (Lib.compact xs).length) 0) hown (by simp; omega) hle
    rw [List.take_left] at h
    refine ⟨rfl, h, ⟨rfl, rfl, rfl, by simp [putRow, mapBlock, Sort.ahead], fun k hk hne => ?_⟩⟩
    have : g ≠ k := fun e => hne (by rw [e]; rfl)
    simp [putRow, mapBlock, Sort.ahead, Array.getElem?_modify, this]

set_option maxRecDepth 100000 in
theorem once_any (a : Option Addr) (cap : Nat) (xs : List Int) (w : World) (hin : IntsRd w a xs.length xs) (hnil : a = none → cap = 0) (hs : xs.length ≤ 1099511627776) :
    Calls Try.prog 83 #[.slice a xs.length cap] w fun e w' => RetInts w (sortU xs) (sortU xs).length e w' := by
  have HC := Lib.hid (show Calls Try.prog 127 #[.slice a xs.length cap] w fun e w' => RetInts w xs xs.length e w' from by
    cases a with
    | none =>
      have hc := hnil rfl
      subst hc
      have hx : xs = [] := by
        rcases hin.row with h | ⟨_, _, h, _⟩
        · simpa using h
        · cases h
      subst hx
      exact (clone_nil w).mono fun _ _ ⟨he, hw⟩ => ⟨none, 0, he, World.ownsRow_nil _ _ _ _, by rw [← hw]; exact Below.refl _ _⟩
    | some ad =>
      exact clone_some ad xs.length cap xs w hin hs)
  go_enter Try.func83, Try.ntmps83
  go_wp2_with fail
  refine HC.out.mono ?_
  rintro e w1 ⟨a1, c1, rfl, hown1, hb1⟩
  have HB1 := Lib.hid hb1
  clear hb1
  go_wp2_with fail
  refine (sort_any w.heap.size a1 c1 xs w1 hown1 hs).mono ?_
  rintro e w2 ⟨rfl, hown2, hg2⟩
  have HG2 := Lib.hid (HB1.out.grown hg2 HB1.out.size (fun k hk => (hown1.lt k hk).1))
  have hl := sortI_len xs
  obtain ⟨ys, hys⟩ : ∃ ys, ys = sortI xs := ⟨_, rfl⟩
  have HY := Lib.hid (show sortU xs = Lib.compact ys by rw [hys]; rfl)
  rw [← hys] at hown2 hl
  rw [← hl] at hown2
  clear hys hown1 hg2
  go_wp2_with fail
  rw [← hl]
  refine (compact_any w.heap.size a1 c1 ys w2 hown2 (by omega)).mono ?_
  rintro e w3 ⟨rfl, hown3, hg3⟩
  have HO := Lib.hid (And.intro hown3 (HG2.out.grown hg3 HG2.out.size (fun k hk => (hown2.lt k hk).1)))
  clear hown3 hg3 hown2
  go_wp2
  go_ret
  rw [HY.out]
  exact ⟨_, _, rfl, HO.out.1, HO.out.2⟩

end Go.Proofs.Ytkhnhdgbbjppeaa
