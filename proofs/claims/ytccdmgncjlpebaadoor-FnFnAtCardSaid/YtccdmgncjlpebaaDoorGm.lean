/-
  The reference draws programs: one statement, laid.
-/
import Derived.Test.YtccdmgncjlpebaaDoorGl

namespace Go.Proofs.YtccdmgncjlpebaaDoor
open Go.RowKit
set_option linter.unusedVariables false

/-- A statement of one argument in blocks of its own, in a list of one. -/
theorem stmt_one {S : Nat → Prop} {w : World} {cs : List Value} {x : ExprD} (hx : exprK 12 S w cs x) (op : Int) (nm : ByteArray) (hop : -9223372036854775808 ≤ op ∧ op ≤ 9223372036854775807) (hn : nm.size ≤ maxLen) :
    ListK 5 (StmtP 1) (fun k => S k ∨ w.heap.size ≤ k) ((w.alloc (.cells cs.toArray 54)).alloc (.cells #[.int .i64 op, .string nm, .slice (some ⟨w.heap.size, 0, none⟩) 1 1, .slice none 0 0, .slice none 0 0] 57)) (some ⟨w.heap.size + 1, 0, none⟩) [.mk op nm [x] [] []] := by
  have hb1 : Below w.heap.size w (w.alloc (.cells cs.toArray 54)) := (Below.refl _ _).alloc (Nat.le_refl _) _
  have hsz : (w.alloc (.cells cs.toArray 54)).heap.size = w.heap.size + 1 := World.size_alloc _ _
  have hb2 : Below (w.alloc (.cells cs.toArray 54)).heap.size (w.alloc (.cells cs.toArray 54)) ((w.alloc (.cells cs.toArray 54)).alloc (.cells #[.int .i64 op, .string nm, .slice (some ⟨w.heap.size, 0, none⟩) 1 1, .slice none 0 0, .slice none 0 0] 57)) := (Below.refl _ _).alloc (Nat.le_refl _) _
  have hone : ListK 4 (exprK 12) (fun k => S k ∨ w.heap.size ≤ k) (w.alloc (.cells cs.toArray 54)) (some ⟨w.heap.size, 0, none⟩) [x] :=
    ListK.one (exprK_stays 12) (heap_alloc_new w _) (.inr (Nat.le_refl _)) ((exprK_stays 12).mono (fun k _ h => .inl h) ((exprK_stays 12).below hb1 hx))
  have hnew := heap_alloc_new (w.alloc (.cells cs.toArray 54)) (.cells #[.int .i64 op, .string nm, .slice (some ⟨w.heap.size, 0, none⟩) 1 1, .slice none 0 0, .slice none 0 0] 57)
  rw [hsz] at hnew
  exact ListK.one (stmtP_stays 1) (c := [.int .i64 op, .string nm, .slice (some ⟨w.heap.size, 0, none⟩) 1 1, .slice none 0 0, .slice none 0 0]) hnew (.inr (by omega))
    ⟨_, _, none, 0, none, 0, rfl, ⟨hn, hop.1, hop.2, (by decide : (1 : Nat) ≤ 100), (by decide : (0 : Nat) ≤ 100), (by decide : (0 : Nat) ≤ 100)⟩, hone.below (exprK_stays 12) hb2, ListK.nil _ _ _, ListK.nil _ _ _⟩

/-- A statement of two arguments. -/
theorem stmt_two {S : Nat → Prop} {w : World} {c1 c2 : List Value} {x1 x2 : ExprD} (h1 : exprK 12 S w c1 x1) (h2 : exprK 12 S w c2 x2) (op : Int) (nm : ByteArray) (hop : -9223372036854775808 ≤ op ∧ op ≤ 9223372036854775807) (hn : nm.size ≤ maxLen) :
    ListK 5 (StmtP 1) (fun k => S k ∨ w.heap.size ≤ k) ((w.alloc (.cells (c1 ++ c2).toArray 54)).alloc (.cells #[.int .i64 op, .string nm, .slice (some ⟨w.heap.size, 0, none⟩) 2 2, .slice none 0 0, .slice none 0 0] 57)) (some ⟨w.heap.size + 1, 0, none⟩) [.mk op nm [x1, x2] [] []] := by
  have hb1 : Below w.heap.size w (w.alloc (.cells (c1 ++ c2).toArray 54)) := (Below.refl _ _).alloc (Nat.le_refl _) _
  have hsz : (w.alloc (.cells (c1 ++ c2).toArray 54)).heap.size = w.heap.size + 1 := World.size_alloc _ _
  have hb2 : Below (w.alloc (.cells (c1 ++ c2).toArray 54)).heap.size (w.alloc (.cells (c1 ++ c2).toArray 54)) ((w.alloc (.cells (c1 ++ c2).toArray 54)).alloc (.cells #[.int .i64 op, .string nm, .slice (some ⟨w.heap.size, 0, none⟩) 2 2, .slice none 0 0, .slice none 0 0] 57)) := (Below.refl _ _).alloc (Nat.le_refl _) _
  have g1 := (exprK_stays 12).mono (S' := fun k => S k ∨ w.heap.size ≤ k) (fun k _ h => .inl h) ((exprK_stays 12).below hb1 h1)
  have g2 := (exprK_stays 12).mono (S' := fun k => S k ∨ w.heap.size ≤ k) (fun k _ h => .inl h) ((exprK_stays 12).below hb1 h2)
  have htwo : ListK 4 (exprK 12) (fun k => S k ∨ w.heap.size ≤ k) (w.alloc (.cells (c1 ++ c2).toArray 54)) (some ⟨w.heap.size, 0, none⟩) [x1, x2] :=
    ListK.laid (cells := [c1, c2]) (by simpa using heap_alloc_new w (.cells (c1 ++ c2).toArray 54)) (.inr (Nat.le_refl _)) rfl (by intro d hd; simp at hd; rcases hd with rfl | rfl; exact (exprK_stays _).len g1; exact (exprK_stays _).len g2) (fun i cl y k1 k2 => by
      match i with
      | 0 => cases k1; cases k2; exact g1
      | 1 => cases k1; cases k2; exact g2
      | i + 2 => cases k1)
  have hnew := heap_alloc_new (w.alloc (.cells (c1 ++ c2).toArray 54)) (.cells #[.int .i64 op, .string nm, .slice (some ⟨w.heap.size, 0, none⟩) 2 2, .slice none 0 0, .slice none 0 0] 57)
  rw [hsz] at hnew
  exact ListK.one (stmtP_stays 1) (c := [.int .i64 op, .string nm, .slice (some ⟨w.heap.size, 0, none⟩) 2 2, .slice none 0 0, .slice none 0 0]) hnew (.inr (by omega))
    ⟨_, _, none, 0, none, 0, rfl, ⟨hn, hop.1, hop.2, (by decide : (2 : Nat) ≤ 100), (by decide : (0 : Nat) ≤ 100), (by decide : (0 : Nat) ≤ 100)⟩, htwo.below (exprK_stays 12) hb2, ListK.nil _ _ _, ListK.nil _ _ _⟩

end Go.Proofs.YtccdmgncjlpebaaDoor
