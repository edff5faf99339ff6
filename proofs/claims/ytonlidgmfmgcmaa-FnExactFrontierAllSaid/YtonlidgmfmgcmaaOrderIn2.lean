
/-
  The reference's order of the blocks, and both functions OrderIn.
-/
import Derived.Test.YtonlidgmfmgcmaaReverse
namespace Go.Proofs.Ytonlidgmfmgcmaa
open Go.RowKit

/-- The cells of a row of bools just made. -/
def falses (n : Nat) : Array Value := madeCells (Value.bool false).cells n
theorem falses_list (n : Nat) : (falses n).toList = (List.replicate n false).map Value.bool := by
  have := made_bools n
  rw [Nat.mul_one] at this
  exact this
theorem run_make_bools {n : Nat} (hn : n ≤ 1048576) (W : World) : (Instr.makeSlice 60 (.int .i64 (n : Int)) (.int .i64 (n : Int))).run Try.prog W = .ok (.slice (some ⟨W.heap.size, 0, none⟩) n n) (W.alloc (.cells (falses n) 4)) := by
  obtain ⟨i0, hi, hz0, hz1, hz2⟩ := info_parts info_bool
  have h := run_make (P := Try.prog) W 60 4 i0 (.bool false) und_bools hi hz0 .i64 .i64 n n (by omega) (by omega) (by rw [hz2]; omega) (by omega)
  simp only [Int.toNat_natCast, hz1, Nat.mul_one] at h
  exact h
theorem own_falses (W : World) (n base : Nat) (hb : base ≤ W.heap.size) (hn : n ≤ 1048576) : (W.alloc (.cells (falses n) 4)).ownsRow base 4 1 (.slice (some ⟨W.heap.size, 0, none⟩) n n) n ((List.replicate n false).map Value.bool) := by
  have hs : (falses n).size = n := by rw [← Array.length_toList, falses_list]; simp
  refine ⟨by simp, .inr ⟨W.heap.size, n, falses n, rfl, hb, heap_alloc_new W _, Nat.le_refl _, by unfold maxLen; omega, by omega, ?_⟩⟩
  rw [← falses_list, List.take_of_length_le (by rw [Array.length_toList, hs]; omega)]

/-- The visit from the first block on, at a world that holds the row of seen blocks and the empty list. -/
theorem visit_start (g : List (List Int)) (hf : Fits g) (p r : Int) (ba : Option Addr) (bc : Nat) (w : World) (hg : Gr w ba g) (sb : Nat) (oa : Option Addr) (W : World) (hb : Below w.heap.size w W)
    (h1 : W.ownsRow w.heap.size 4 1 (.slice (some ⟨sb, 0, none⟩) g.length g.length) g.length ((List.replicate g.length false).map Value.bool)) (h2 : W.ownsRow w.heap.size 3 1 (.slice oa 0 0) 0 []) :
    Calls Try.prog 28 #[.agg #[.int .i64 p, .int .i64 r, .slice ba g.length bc], .int .i64 0, .slice (some ⟨sb, 0, none⟩) g.length g.length, .slice oa 0 0] W fun e w' =>
      ∃ oa oc, e = .returned (.slice oa (leftOf g).length oc) ∧ w'.ownsRow w.heap.size 3 1 (.slice oa (leftOf g).length oc) (leftOf g).length ((leftOf g).map (Value.int .i64)) ∧ Below w.heap.size w w' := by
  have hlen := hg.len
  have hpos := hf.pos
  have hs := hb.size
  refine (l10Visit_any g hf p r ba bc w hg sb g.length 0 (List.replicate g.length false, []) oa 0 W hb h1 h2 (by have := unseen_le (List.replicate g.length false); simp at this ⊢; omega) hpos (by unfold seenAt; simp [hpos]) (by have := unseen_le (List.replicate g.length false); simpa using this)).mono ?_
  rintro e w2 ⟨oa', oc', rfl, hv⟩
  refine ⟨oa', oc', rfl, hv.list, hb.trans (hv.turned.below hs (fun k hk => ?_))⟩
  rcases hk with hk | hk
  · subst hk; exact (h1.lt k rfl).1
  · exact (h2.lt k hk).1
theorem visit_start1 (g : List (List Int)) (hf : Fits g) (p r : Int) (ba : Option Addr) (bc : Nat) (w : World) (hg : Gr w ba g) :
    Calls Try.prog 28 #[.agg #[.int .i64 p, .int .i64 r, .slice ba g.length bc], .int .i64 0, .slice (some ⟨w.heap.size + 1, 0, none⟩) g.length g.length, .slice (some ⟨w.heap.size + 1 + 1, 0, none⟩) 0 0]
      (((w.alloc (.cells #[.int .i64 p, .int .i64 r, .slice ba g.length bc] 30)).alloc (.cells (falses g.length) 4)).alloc (.cells #[] 3)).drew fun e w' =>
      ∃ oa oc, e = .returned (.slice oa (leftOf g).length oc) ∧ w'.ownsRow w.heap.size 3 1 (.slice oa (leftOf g).length oc) (leftOf g).length ((leftOf g).map (Value.int .i64)) ∧ Below w.heap.size w w' := by
  have h1 := own_falses (w.alloc (.cells #[.int .i64 p, .int .i64 r, .slice ba g.length bc] 30)) g.length w.heap.size (by simp) hg.len
  have h2 := own_empty ((w.alloc (.cells #[.int .i64 p, .int .i64 r, .slice ba g.length bc] 30)).alloc (.cells (falses g.length) 4)) w.heap.size 3 1 (by simp; omega)
  simp only [World.size_alloc] at h1 h2
  exact visit_start g hf p r ba bc w hg _ _ _ (((((Below.refl w.heap.size w).alloc (Nat.le_refl _) _).alloc (by simp) _).alloc (by simp; omega) _).drew) (h1.alloc _).drew h2.drew
theorem visit_start2 (g : List (List Int)) (hf : Fits g) (p r : Int) (ba : Option Addr) (bc : Nat) (w : World) (hg : Gr w ba g) :
    Calls Try.prog 28 #[.agg #[.int .i64 p, .int .i64 r, .slice ba g.length bc], .int .i64 0, .slice (some ⟨w.heap.size + 1 + 1, 0, none⟩) g.length g.length, .slice (some ⟨w.heap.size + 1, 0, none⟩) 0 0]
      (((w.alloc (.cells #[.int .i64 p, .int .i64 r, .slice ba g.length bc] 30)).alloc (.cells #[] 3)).alloc (.cells (falses g.length) 4)).drew fun e w' =>
      ∃ oa oc, e = .returned (.slice oa (leftOf g).length oc) ∧ w'.ownsRow w.heap.size 3 1 (.slice oa (leftOf g).length oc) (leftOf g).length ((leftOf g).map (Value.int .i64)) ∧ Below w.heap.size w w' := by
  have h2 := own_empty (w.alloc (.cells #[.int .i64 p, .int .i64 r, .slice ba g.length bc] 30)) w.heap.size 3 1 (by simp)
  have h1 := own_falses ((w.alloc (.cells #[.int .i64 p, .int .i64 r, .slice ba g.length bc] 30)).alloc (.cells #[] 3)) g.length w.heap.size (by simp; omega) hg.len
  simp only [World.size_alloc] at h1 h2
  exact visit_start g hf p r ba bc w hg _ _ _ (((((Below.refl w.heap.size w).alloc (Nat.le_refl _) _).alloc (by simp) _).alloc (by simp; omega) _).drew) h1.drew (h2.alloc _).drew

end Go.Proofs.Ytonlidgmfmgcmaa
