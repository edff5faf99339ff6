/-
  The laws' copies of data of the group Unit.
-/
import Derived.Test.YtajnldkempeheaaUnitData
import Derived.StillTailTactics
import Derived.Test.YtajnldkempeheaaCore
import Derived.Test.YtajnldkempeheaaSep
import Derived.Deep.LoopGhost

namespace Go.Proofs.Ytajnldkempeheaa
open Go.RowKit

theorem info_Phi : (Try.prog.info? 78).map (fun i => (i.zero, i.size, i.bytes)) = some (some (.agg #[.int .i64 0, .slice none 0 0]), 2, 32) := by kernel_rfl
theorem und_PhiS : Try.prog.underlying 38 = some (.slice 78) := by kernel_rfl
theorem info_Ins : (Try.prog.info? 83).map (fun i => (i.zero, i.size, i.bytes)) = some (some (.agg #[.int .i64 0, .int .i64 0, .slice none 0 0, .int .i64 0]), 4, 48) := by kernel_rfl
theorem und_InsS : Try.prog.underlying 39 = some (.slice 83) := by kernel_rfl
theorem info_Block : (Try.prog.info? 41).map (fun i => (i.zero, i.size, i.bytes)) = some (some (.agg #[.slice none 0 0, .slice none 0 0, .int .i64 0, .int .i64 0, .slice none 0 0]), 5, 88) := by kernel_rfl
theorem und_BlockS : Try.prog.underlying 35 = some (.slice 41) := by kernel_rfl
theorem info_Code : (Try.prog.info? 37).map (fun i => (i.zero, i.size, i.bytes)) = some (some (.agg #[.int .i64 0, .int .i64 0, .slice none 0 0]), 3, 40) := by kernel_rfl
theorem und_CodeS : Try.prog.underlying 23 = some (.slice 37) := by kernel_rfl
end Go.Proofs.Ytajnldkempeheaa

/-
  append of structs of a unit; mapped over them, each copied into memory of its own.
-/
namespace Go.Proofs.Ytajnldkempeheaa
open Go.RowKit
set_option linter.unusedVariables false

section
variable {w : World} {ops : Array Oper} {rest : List Oper} {o : Oper} {a : Act} {Q : Exit → Act → World → Prop}
/-- append of one Phi. -/
theorem app_phi (hgd : o.guard = none) (s x : Operand) (ho : o.op = .call { callee := .builtin .append, args := #[s, x], argTypes := #[38, 38] })
    (base : Nat) (v : Value) (n : Nat) (xs : List Value) (hs : a.eval s = v) (hown : w.ownsRow base 78 2 v n xs)
    (ao : Option Addr) (c : Nat) (ys : List Value) (hx : a.eval x = .slice ao 1 c) (hrow : RowAt w ao ys) (hl : ys.length = 2) (hone : ∀ u ∈ ys, u.oneCell' = true)
    (hb : n + 1 ≤ 1099511627776) (hbase : base ≤ w.heap.size)
    (h : ∀ a' c' w', w'.ownsRow base 78 2 (.slice a' (n + 1) c') (n + 1) (xs ++ ys) → w.grownBy w' v.ownBlock →
      ((Value.slice a' (n + 1) c').ownBlock = v.ownBlock ∨ (Value.slice a' (n + 1) c').ownBlock = some w.heap.size) → wpList Try.prog ops Q rest (a.put o.dst (.slice a' (n + 1) c')) w') : wpList Try.prog ops Q (o :: rest) a w := by
  obtain ⟨i0, hi, hz0, hz1, hz2⟩ := info_parts info_Phi
  exact wpList_append_any hgd s x 38 ho base 78 i0 (.agg #[.int .i64 0, .slice none 0 0]) 2 32 und_PhiS hi hz0 hz1 hz2 rfl (by decide) v n xs hs hown ao 1 c _ hx (by simp [hl]) hrow (by
    rintro rfl
    rcases hrow with h | ⟨_, _, h, _⟩
    · rw [h] at hl; simp at hl
    · cases h) hone (by unfold maxLen; omega) (by omega) hbase h
theorem step_app_phi {K : Act → World → Prop} {E : Prop} (hgd : o.guard = none) (s x : Operand) (ho : o.op = .call { callee := .builtin .append, args := #[s, x], argTypes := #[38, 38] })
    (base : Nat) (v : Value) (n : Nat) (xs : List Value) (hs : a.eval s = v) (hown : w.ownsRow base 78 2 v n xs)
    (ao : Option Addr) (c : Nat) (ys : List Value) (hx : a.eval x = .slice ao 1 c) (hrow : RowAt w ao ys) (hl : ys.length = 2) (hone : ∀ u ∈ ys, u.oneCell' = true)
    (hb : n + 1 ≤ 1099511627776) (hbase : base ≤ w.heap.size)
    (h : ∀ a' c' w', w'.ownsRow base 78 2 (.slice a' (n + 1) c') (n + 1) (xs ++ ys) → w.grownBy w' v.ownBlock →
      ((Value.slice a' (n + 1) c').ownBlock = v.ownBlock ∨ (Value.slice a' (n + 1) c').ownBlock = some w.heap.size) → K (a.put o.dst (.slice a' (n + 1) c')) w') :
    if Region.wanted o (yielded ops a.tmps) = true then Oper.wp Try.prog o a w K Q else E := by
  obtain ⟨i0, hi, hz0, hz1, hz2⟩ := info_parts info_Phi
  exact step_append_any hgd s x 38 ho base 78 i0 (.agg #[.int .i64 0, .slice none 0 0]) 2 32 und_PhiS hi hz0 hz1 hz2 rfl (by decide) v n xs hs hown ao 1 c _ hx (by simp [hl]) hrow (by
    rintro rfl
    rcases hrow with h | ⟨_, _, h, _⟩
    · rw [h] at hl; simp at hl
    · cases h) hone (by unfold maxLen; omega) (by omega) hbase h
/-- append of one Ins. -/
theorem app_ins (hgd : o.guard = none) (s x : Operand) (ho : o.op = .call { callee := .builtin .append, args := #[s, x], argTypes := #[39, 39] })
    (base : Nat) (v : Value) (n : Nat) (xs : List Value) (hs : a.eval s = v) (hown : w.ownsRow base 83 4 v n xs)
    (ao : Option Addr) (c : Nat) (ys : List Value) (hx : a.eval x = .slice ao 1 c) (hrow : RowAt w ao ys) (hl : ys.length = 4) (hone : ∀ u ∈ ys, u.oneCell' = true)
    (hb : n + 1 ≤ 1099511627776) (hbase : base ≤ w.heap.size)
    (h : ∀ a' c' w', w'.ownsRow base 83 4 (.slice a' (n + 1) c') (n + 1) (xs ++ ys) → w.grownBy w' v.ownBlock →
      ((Value.slice a' (n + 1) c').ownBlock = v.ownBlock ∨ (Value.slice a' (n + 1) c').ownBlock = some w.heap.size) → wpList Try.prog ops Q rest (a.put o.dst (.slice a' (n + 1) c')) w') : wpList Try.prog ops Q (o :: rest) a w := by
  obtain ⟨i0, hi, hz0, hz1, hz2⟩ := info_parts info_Ins
  exact wpList_append_any hgd s x 39 ho base 83 i0 (.agg #[.int .i64 0, .int .i64 0, .slice none 0 0, .int .i64 0]) 4 48 und_InsS hi hz0 hz1 hz2 rfl (by decide) v n xs hs hown ao 1 c _ hx (by simp [hl]) hrow (by
    rintro rfl
    rcases hrow with h | ⟨_, _, h, _⟩
    · rw [h] at hl; simp at hl
    · cases h) hone (by unfold maxLen; omega) (by omega) hbase h
theorem step_app_ins {K : Act → World → Prop} {E : Prop} (hgd : o.guard = none) (s x : Operand) (ho : o.op = .call { callee := .builtin .append, args := #[s, x], argTypes := #[39, 39] })
    (base : Nat) (v : Value) (n : Nat) (xs : List Value) (hs : a.eval s = v) (hown : w.ownsRow base 83 4 v n xs)
    (ao : Option Addr) (c : Nat) (ys : List Value) (hx : a.eval x = .slice ao 1 c) (hrow : RowAt w ao ys) (hl : ys.length = 4) (hone : ∀ u ∈ ys, u.oneCell' = true)
    (hb : n + 1 ≤ 1099511627776) (hbase : base ≤ w.heap.size)
    (h : ∀ a' c' w', w'.ownsRow base 83 4 (.slice a' (n + 1) c') (n + 1) (xs ++ ys) → w.grownBy w' v.ownBlock →
      ((Value.slice a' (n + 1) c').ownBlock = v.ownBlock ∨ (Value.slice a' (n + 1) c').ownBlock = some w.heap.size) → K (a.put o.dst (.slice a' (n + 1) c')) w') :
    if Region.wanted o (yielded ops a.tmps) = true then Oper.wp Try.prog o a w K Q else E := by
  obtain ⟨i0, hi, hz0, hz1, hz2⟩ := info_parts info_Ins
  exact step_append_any hgd s x 39 ho base 83 i0 (.agg #[.int .i64 0, .int .i64 0, .slice none 0 0, .int .i64 0]) 4 48 und_InsS hi hz0 hz1 hz2 rfl (by decide) v n xs hs hown ao 1 c _ hx (by simp [hl]) hrow (by
    rintro rfl
    rcases hrow with h | ⟨_, _, h, _⟩
    · rw [h] at hl; simp at hl
    · cases h) hone (by unfold maxLen; omega) (by omega) hbase h
/-- append of one Block. -/
theorem app_block (hgd : o.guard = none) (s x : Operand) (ho : o.op = .call { callee := .builtin .append, args := #[s, x], argTypes := #[35, 35] })
    (base : Nat) (v : Value) (n : Nat) (xs : List Value) (hs : a.eval s = v) (hown : w.ownsRow base 41 5 v n xs)
    (ao : Option Addr) (c : Nat) (ys : List Value) (hx : a.eval x = .slice ao 1 c) (hrow : RowAt w ao ys) (hl : ys.length = 5) (hone : ∀ u ∈ ys, u.oneCell' = true)
    (hb : n + 1 ≤ 1099511627776) (hbase : base ≤ w.heap.size)
    (h : ∀ a' c' w', w'.ownsRow base 41 5 (.slice a' (n + 1) c') (n + 1) (xs ++ ys) → w.grownBy w' v.ownBlock →
      ((Value.slice a' (n + 1) c').ownBlock = v.ownBlock ∨ (Value.slice a' (n + 1) c').ownBlock = some w.heap.size) → wpList Try.prog ops Q rest (a.put o.dst (.slice a' (n + 1) c')) w') : wpList Try.prog ops Q (o :: rest) a w := by
  obtain ⟨i0, hi, hz0, hz1, hz2⟩ := info_parts info_Block
  exact wpList_append_any hgd s x 35 ho base 41 i0 (.agg #[.slice none 0 0, .slice none 0 0, .int .i64 0, .int .i64 0, .slice none 0 0]) 5 88 und_BlockS hi hz0 hz1 hz2 rfl (by decide) v n xs hs hown ao 1 c _ hx (by simp [hl]) hrow (by
    rintro rfl
    rcases hrow with h | ⟨_, _, h, _⟩
    · rw [h] at hl; simp at hl
    · cases h) hone (by unfold maxLen; omega) (by omega) hbase h
theorem step_app_block {K : Act → World → Prop} {E : Prop} (hgd : o.guard = none) (s x : Operand) (ho : o.op = .call { callee := .builtin .append, args := #[s, x], argTypes := #[35, 35] })
    (base : Nat) (v : Value) (n : Nat) (xs : List Value) (hs : a.eval s = v) (hown : w.ownsRow base 41 5 v n xs)
    (ao : Option Addr) (c : Nat) (ys : List Value) (hx : a.eval x = .slice ao 1 c) (hrow : RowAt w ao ys) (hl : ys.length = 5) (hone : ∀ u ∈ ys, u.oneCell' = true)
    (hb : n + 1 ≤ 1099511627776) (hbase : base ≤ w.heap.size)
    (h : ∀ a' c' w', w'.ownsRow base 41 5 (.slice a' (n + 1) c') (n + 1) (xs ++ ys) → w.grownBy w' v.ownBlock →
      ((Value.slice a' (n + 1) c').ownBlock = v.ownBlock ∨ (Value.slice a' (n + 1) c').ownBlock = some w.heap.size) → K (a.put o.dst (.slice a' (n + 1) c')) w') :
    if Region.wanted o (yielded ops a.tmps) = true then Oper.wp Try.prog o a w K Q else E := by
  obtain ⟨i0, hi, hz0, hz1, hz2⟩ := info_parts info_Block
  exact step_append_any hgd s x 35 ho base 41 i0 (.agg #[.slice none 0 0, .slice none 0 0, .int .i64 0, .int .i64 0, .slice none 0 0]) 5 88 und_BlockS hi hz0 hz1 hz2 rfl (by decide) v n xs hs hown ao 1 c _ hx (by simp [hl]) hrow (by
    rintro rfl
    rcases hrow with h | ⟨_, _, h, _⟩
    · rw [h] at hl; simp at hl
    · cases h) hone (by unfold maxLen; omega) (by omega) hbase h
/-- append of one Code. -/
theorem app_code (hgd : o.guard = none) (s x : Operand) (ho : o.op = .call { callee := .builtin .append, args := #[s, x], argTypes := #[23, 23] })
    (base : Nat) (v : Value) (n : Nat) (xs : List Value) (hs : a.eval s = v) (hown : w.ownsRow base 37 3 v n xs)
    (ao : Option Addr) (c : Nat) (ys : List Value) (hx : a.eval x = .slice ao 1 c) (hrow : RowAt w ao ys) (hl : ys.length = 3) (hone : ∀ u ∈ ys, u.oneCell' = true)
    (hb : n + 1 ≤ 1099511627776) (hbase : base ≤ w.heap.size)
    (h : ∀ a' c' w', w'.ownsRow base 37 3 (.slice a' (n + 1) c') (n + 1) (xs ++ ys) → w.grownBy w' v.ownBlock →
      ((Value.slice a' (n + 1) c').ownBlock = v.ownBlock ∨ (Value.slice a' (n + 1) c').ownBlock = some w.heap.size) → wpList Try.prog ops Q rest (a.put o.dst (.slice a' (n + 1) c')) w') : wpList Try.prog ops Q (o :: rest) a w := by
  obtain ⟨i0, hi, hz0, hz1, hz2⟩ := info_parts info_Code
  exact wpList_append_any hgd s x 23 ho base 37 i0 (.agg #[.int .i64 0, .int .i64 0, .slice none 0 0]) 3 40 und_CodeS hi hz0 hz1 hz2 rfl (by decide) v n xs hs hown ao 1 c _ hx (by simp [hl]) hrow (by
    rintro rfl
    rcases hrow with h | ⟨_, _, h, _⟩
    · rw [h] at hl; simp at hl
    · cases h) hone (by unfold maxLen; omega) (by omega) hbase h
theorem step_app_code {K : Act → World → Prop} {E : Prop} (hgd : o.guard = none) (s x : Operand) (ho : o.op = .call { callee := .builtin .append, args := #[s, x], argTypes := #[23, 23] })
    (base : Nat) (v : Value) (n : Nat) (xs : List Value) (hs : a.eval s = v) (hown : w.ownsRow base 37 3 v n xs)
    (ao : Option Addr) (c : Nat) (ys : List Value) (hx : a.eval x = .slice ao 1 c) (hrow : RowAt w ao ys) (hl : ys.length = 3) (hone : ∀ u ∈ ys, u.oneCell' = true)
    (hb : n + 1 ≤ 1099511627776) (hbase : base ≤ w.heap.size)
    (h : ∀ a' c' w', w'.ownsRow base 37 3 (.slice a' (n + 1) c') (n + 1) (xs ++ ys) → w.grownBy w' v.ownBlock →
      ((Value.slice a' (n + 1) c').ownBlock = v.ownBlock ∨ (Value.slice a' (n + 1) c').ownBlock = some w.heap.size) → K (a.put o.dst (.slice a' (n + 1) c')) w') :
    if Region.wanted o (yielded ops a.tmps) = true then Oper.wp Try.prog o a w K Q else E := by
  obtain ⟨i0, hi, hz0, hz1, hz2⟩ := info_parts info_Code
  exact step_append_any hgd s x 23 ho base 37 i0 (.agg #[.int .i64 0, .int .i64 0, .slice none 0 0]) 3 40 und_CodeS hi hz0 hz1 hz2 rfl (by decide) v n xs hs hown ao 1 c _ hx (by simp [hl]) hrow (by
    rintro rfl
    rcases hrow with h | ⟨_, _, h, _⟩
    · rw [h] at hl; simp at hl
    · cases h) hone (by unfold maxLen; omega) (by omega) hbase h
end

end Go.Proofs.Ytajnldkempeheaa
