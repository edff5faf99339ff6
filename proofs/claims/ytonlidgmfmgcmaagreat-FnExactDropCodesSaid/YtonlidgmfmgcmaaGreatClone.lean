
/-
  append of structs of a unit; mapped over them, each copied into memory of its own.
-/
import Derived.Test.YtonlidgmfmgcmaaGreatSep
import Derived.Test.YtonlidgmfmgcmaaGreatUnitTo
import Derived.Deep.LoopGhost
namespace Go.Proofs.YtonlidgmfmgcmaaGreat
open Go.RowKit
set_option linter.unusedVariables false

section
variable {w : World} {ops : Array Oper} {rest : List Oper} {o : Oper} {a : Act} {Q : Exit → Act → World → Prop}
/-- append of one Phi. -/
theorem app_phi (hgd : o.guard = none) (s x : Operand) (ho : o.op = .call { callee := .builtin .append, args := #[s, x], argTypes := #[46, 46] })
    (base : Nat) (v : Value) (n : Nat) (xs : List Value) (hs : a.eval s = v) (hown : w.ownsRow base 83 2 v n xs)
    (ao : Option Addr) (c : Nat) (ys : List Value) (hx : a.eval x = .slice ao 1 c) (hrow : RowAt w ao ys) (hl : ys.length = 2) (hone : ∀ u ∈ ys, u.oneCell' = true)
    (hb : n + 1 ≤ 1099511627776) (hbase : base ≤ w.heap.size)
    (h : ∀ a' c' w', w'.ownsRow base 83 2 (.slice a' (n + 1) c') (n + 1) (xs ++ ys) → w.grownBy w' v.ownBlock →
      ((Value.slice a' (n + 1) c').ownBlock = v.ownBlock ∨ (Value.slice a' (n + 1) c').ownBlock = some w.heap.size) → wpList Tryz.prog ops Q rest (a.put o.dst (.slice a' (n + 1) c')) w') : wpList Tryz.prog ops Q (o :: rest) a w := by
  obtain ⟨i0, hi, hz0, hz1, hz2⟩ := info_parts info_Phi
  exact wpList_append_any hgd s x 46 ho base 83 i0 (.agg #[.int .i64 0, .slice none 0 0]) 2 32 und_PhiS hi hz0 hz1 hz2 rfl (by decide) v n xs hs hown ao 1 c _ hx (by simp [hl]) hrow (by
    rintro rfl
    rcases hrow with h | ⟨_, _, h, _⟩
    · rw [h] at hl; simp at hl
    · cases h) hone (by unfold maxLen; omega) (by omega) hbase h
theorem step_app_phi {K : Act → World → Prop} {E : Prop} (hgd : o.guard = none) (s x : Operand) (ho : o.op = .call { callee := .builtin .append, args := #[s, x], argTypes := #[46, 46] })
    (base : Nat) (v : Value) (n : Nat) (xs : List Value) (hs : a.eval s = v) (hown : w.ownsRow base 83 2 v n xs)
    (ao : Option Addr) (c : Nat) (ys : List Value) (hx : a.eval x = .slice ao 1 c) (hrow : RowAt w ao ys) (hl : ys.length = 2) (hone : ∀ u ∈ ys, u.oneCell' = true)
    (hb : n + 1 ≤ 1099511627776) (hbase : base ≤ w.heap.size)
    (h : ∀ a' c' w', w'.ownsRow base 83 2 (.slice a' (n + 1) c') (n + 1) (xs ++ ys) → w.grownBy w' v.ownBlock →
      ((Value.slice a' (n + 1) c').ownBlock = v.ownBlock ∨ (Value.slice a' (n + 1) c').ownBlock = some w.heap.size) → K (a.put o.dst (.slice a' (n + 1) c')) w') :
    if Region.wanted o (yielded ops a.tmps) = true then Oper.wp Tryz.prog o a w K Q else E := by
  obtain ⟨i0, hi, hz0, hz1, hz2⟩ := info_parts info_Phi
  exact step_append_any hgd s x 46 ho base 83 i0 (.agg #[.int .i64 0, .slice none 0 0]) 2 32 und_PhiS hi hz0 hz1 hz2 rfl (by decide) v n xs hs hown ao 1 c _ hx (by simp [hl]) hrow (by
    rintro rfl
    rcases hrow with h | ⟨_, _, h, _⟩
    · rw [h] at hl; simp at hl
    · cases h) hone (by unfold maxLen; omega) (by omega) hbase h
/-- append of one Ins. -/
theorem app_ins (hgd : o.guard = none) (s x : Operand) (ho : o.op = .call { callee := .builtin .append, args := #[s, x], argTypes := #[47, 47] })
    (base : Nat) (v : Value) (n : Nat) (xs : List Value) (hs : a.eval s = v) (hown : w.ownsRow base 45 4 v n xs)
    (ao : Option Addr) (c : Nat) (ys : List Value) (hx : a.eval x = .slice ao 1 c) (hrow : RowAt w ao ys) (hl : ys.length = 4) (hone : ∀ u ∈ ys, u.oneCell' = true)
    (hb : n + 1 ≤ 1099511627776) (hbase : base ≤ w.heap.size)
    (h : ∀ a' c' w', w'.ownsRow base 45 4 (.slice a' (n + 1) c') (n + 1) (xs ++ ys) → w.grownBy w' v.ownBlock →
      ((Value.slice a' (n + 1) c').ownBlock = v.ownBlock ∨ (Value.slice a' (n + 1) c').ownBlock = some w.heap.size) → wpList Tryz.prog ops Q rest (a.put o.dst (.slice a' (n + 1) c')) w') : wpList Tryz.prog ops Q (o :: rest) a w := by
  obtain ⟨i0, hi, hz0, hz1, hz2⟩ := info_parts info_Ins
  exact wpList_append_any hgd s x 47 ho base 45 i0 (.agg #[.int .i64 0, .int .i64 0, .slice none 0 0, .int .i64 0]) 4 48 und_InsS hi hz0 hz1 hz2 rfl (by decide) v n xs hs hown ao 1 c _ hx (by simp [hl]) hrow (by
    rintro rfl
    rcases hrow with h | ⟨_, _, h, _⟩
    · rw [h] at hl; simp at hl
    · cases h) hone (by unfold maxLen; omega) (by omega) hbase h
theorem step_app_ins {K : Act → World → Prop} {E : Prop} (hgd : o.guard = none) (s x : Operand) (ho : o.op = .call { callee := .builtin .append, args := #[s, x], argTypes := #[47, 47] })
    (base : Nat) (v : Value) (n : Nat) (xs : List Value) (hs : a.eval s = v) (hown : w.ownsRow base 45 4 v n xs)
    (ao : Option Addr) (c : Nat) (ys : List Value) (hx : a.eval x = .slice ao 1 c) (hrow : RowAt w ao ys) (hl : ys.length = 4) (hone : ∀ u ∈ ys, u.oneCell' = true)
    (hb : n + 1 ≤ 1099511627776) (hbase : base ≤ w.heap.size)
    (h : ∀ a' c' w', w'.ownsRow base 45 4 (.slice a' (n + 1) c') (n + 1) (xs ++ ys) → w.grownBy w' v.ownBlock →
      ((Value.slice a' (n + 1) c').ownBlock = v.ownBlock ∨ (Value.slice a' (n + 1) c').ownBlock = some w.heap.size) → K (a.put o.dst (.slice a' (n + 1) c')) w') :
    if Region.wanted o (yielded ops a.tmps) = true then Oper.wp Tryz.prog o a w K Q else E := by
  obtain ⟨i0, hi, hz0, hz1, hz2⟩ := info_parts info_Ins
  exact step_append_any hgd s x 47 ho base 45 i0 (.agg #[.int .i64 0, .int .i64 0, .slice none 0 0, .int .i64 0]) 4 48 und_InsS hi hz0 hz1 hz2 rfl (by decide) v n xs hs hown ao 1 c _ hx (by simp [hl]) hrow (by
    rintro rfl
    rcases hrow with h | ⟨_, _, h, _⟩
    · rw [h] at hl; simp at hl
    · cases h) hone (by unfold maxLen; omega) (by omega) hbase h
/-- append of one Block. -/
theorem app_block (hgd : o.guard = none) (s x : Operand) (ho : o.op = .call { callee := .builtin .append, args := #[s, x], argTypes := #[50, 50] })
    (base : Nat) (v : Value) (n : Nat) (xs : List Value) (hs : a.eval s = v) (hown : w.ownsRow base 49 5 v n xs)
    (ao : Option Addr) (c : Nat) (ys : List Value) (hx : a.eval x = .slice ao 1 c) (hrow : RowAt w ao ys) (hl : ys.length = 5) (hone : ∀ u ∈ ys, u.oneCell' = true)
    (hb : n + 1 ≤ 1099511627776) (hbase : base ≤ w.heap.size)
    (h : ∀ a' c' w', w'.ownsRow base 49 5 (.slice a' (n + 1) c') (n + 1) (xs ++ ys) → w.grownBy w' v.ownBlock →
      ((Value.slice a' (n + 1) c').ownBlock = v.ownBlock ∨ (Value.slice a' (n + 1) c').ownBlock = some w.heap.size) → wpList Tryz.prog ops Q rest (a.put o.dst (.slice a' (n + 1) c')) w') : wpList Tryz.prog ops Q (o :: rest) a w := by
  obtain ⟨i0, hi, hz0, hz1, hz2⟩ := info_parts info_Block
  exact wpList_append_any hgd s x 50 ho base 49 i0 (.agg #[.slice none 0 0, .slice none 0 0, .int .i64 0, .int .i64 0, .slice none 0 0]) 5 88 und_BlockS hi hz0 hz1 hz2 rfl (by decide) v n xs hs hown ao 1 c _ hx (by simp [hl]) hrow (by
    rintro rfl
    rcases hrow with h | ⟨_, _, h, _⟩
    · rw [h] at hl; simp at hl
    · cases h) hone (by unfold maxLen; omega) (by omega) hbase h
theorem step_app_block {K : Act → World → Prop} {E : Prop} (hgd : o.guard = none) (s x : Operand) (ho : o.op = .call { callee := .builtin .append, args := #[s, x], argTypes := #[50, 50] })
    (base : Nat) (v : Value) (n : Nat) (xs : List Value) (hs : a.eval s = v) (hown : w.ownsRow base 49 5 v n xs)
    (ao : Option Addr) (c : Nat) (ys : List Value) (hx : a.eval x = .slice ao 1 c) (hrow : RowAt w ao ys) (hl : ys.length = 5) (hone : ∀ u ∈ ys, u.oneCell' = true)
    (hb : n + 1 ≤ 1099511627776) (hbase : base ≤ w.heap.size)
    (h : ∀ a' c' w', w'.ownsRow base 49 5 (.slice a' (n + 1) c') (n + 1) (xs ++ ys) → w.grownBy w' v.ownBlock →
      ((Value.slice a' (n + 1) c').ownBlock = v.ownBlock ∨ (Value.slice a' (n + 1) c').ownBlock = some w.heap.size) → K (a.put o.dst (.slice a' (n + 1) c')) w') :
    if Region.wanted o (yielded ops a.tmps) = true then Oper.wp Tryz.prog o a w K Q else E := by
  obtain ⟨i0, hi, hz0, hz1, hz2⟩ := info_parts info_Block
  exact step_append_any hgd s x 50 ho base 49 i0 (.agg #[.slice none 0 0, .slice none 0 0, .int .i64 0, .int .i64 0, .slice none 0 0]) 5 88 und_BlockS hi hz0 hz1 hz2 rfl (by decide) v n xs hs hown ao 1 c _ hx (by simp [hl]) hrow (by
    rintro rfl
    rcases hrow with h | ⟨_, _, h, _⟩
    · rw [h] at hl; simp at hl
    · cases h) hone (by unfold maxLen; omega) (by omega) hbase h
/-- append of one Code. -/
theorem app_code (hgd : o.guard = none) (s x : Operand) (ho : o.op = .call { callee := .builtin .append, args := #[s, x], argTypes := #[28, 28] })
    (base : Nat) (v : Value) (n : Nat) (xs : List Value) (hs : a.eval s = v) (hown : w.ownsRow base 52 3 v n xs)
    (ao : Option Addr) (c : Nat) (ys : List Value) (hx : a.eval x = .slice ao 1 c) (hrow : RowAt w ao ys) (hl : ys.length = 3) (hone : ∀ u ∈ ys, u.oneCell' = true)
    (hb : n + 1 ≤ 1099511627776) (hbase : base ≤ w.heap.size)
    (h : ∀ a' c' w', w'.ownsRow base 52 3 (.slice a' (n + 1) c') (n + 1) (xs ++ ys) → w.grownBy w' v.ownBlock →
      ((Value.slice a' (n + 1) c').ownBlock = v.ownBlock ∨ (Value.slice a' (n + 1) c').ownBlock = some w.heap.size) → wpList Tryz.prog ops Q rest (a.put o.dst (.slice a' (n + 1) c')) w') : wpList Tryz.prog ops Q (o :: rest) a w := by
  obtain ⟨i0, hi, hz0, hz1, hz2⟩ := info_parts info_Code
  exact wpList_append_any hgd s x 28 ho base 52 i0 (.agg #[.int .i64 0, .int .i64 0, .slice none 0 0]) 3 40 und_CodeS hi hz0 hz1 hz2 rfl (by decide) v n xs hs hown ao 1 c _ hx (by simp [hl]) hrow (by
    rintro rfl
    rcases hrow with h | ⟨_, _, h, _⟩
    · rw [h] at hl; simp at hl
    · cases h) hone (by unfold maxLen; omega) (by omega) hbase h
theorem step_app_code {K : Act → World → Prop} {E : Prop} (hgd : o.guard = none) (s x : Operand) (ho : o.op = .call { callee := .builtin .append, args := #[s, x], argTypes := #[28, 28] })
    (base : Nat) (v : Value) (n : Nat) (xs : List Value) (hs : a.eval s = v) (hown : w.ownsRow base 52 3 v n xs)
    (ao : Option Addr) (c : Nat) (ys : List Value) (hx : a.eval x = .slice ao 1 c) (hrow : RowAt w ao ys) (hl : ys.length = 3) (hone : ∀ u ∈ ys, u.oneCell' = true)
    (hb : n + 1 ≤ 1099511627776) (hbase : base ≤ w.heap.size)
    (h : ∀ a' c' w', w'.ownsRow base 52 3 (.slice a' (n + 1) c') (n + 1) (xs ++ ys) → w.grownBy w' v.ownBlock →
      ((Value.slice a' (n + 1) c').ownBlock = v.ownBlock ∨ (Value.slice a' (n + 1) c').ownBlock = some w.heap.size) → K (a.put o.dst (.slice a' (n + 1) c')) w') :
    if Region.wanted o (yielded ops a.tmps) = true then Oper.wp Tryz.prog o a w K Q else E := by
  obtain ⟨i0, hi, hz0, hz1, hz2⟩ := info_parts info_Code
  exact step_append_any hgd s x 28 ho base 52 i0 (.agg #[.int .i64 0, .int .i64 0, .slice none 0 0]) 3 40 und_CodeS hi hz0 hz1 hz2 rfl (by decide) v n xs hs hown ao 1 c _ hx (by simp [hl]) hrow (by
    rintro rfl
    rcases hrow with h | ⟨_, _, h, _⟩
    · rw [h] at hl; simp at hl
    · cases h) hone (by unfold maxLen; omega) (by omega) hbase h
end

set_option maxRecDepth 100000 in
set_option maxHeartbeats 4000000 in
theorem mappedPhi_any (f : Nat) (caps : Array Value) (a : Option Addr) (c : Nat) (xs : List PhiD) (w : World) (hin : SliceRd 2 PhiR w a xs.length xs) (hn : xs.length ≤ 1048576)
    (hen : ∀ v W, (callFunc f (#[v] ++ caps)).run Tryz.prog W = .ok (.enter f (#[v] ++ caps)) W)
    (hf : ∀ x ∈ xs, ∀ cs W, Below w.heap.size w W → PhiR W cs x → Calls Tryz.prog f (#[.agg cs.toArray] ++ caps) W fun e w' => ∃ cs', e = .returned (.agg (List.toArray cs')) ∧ PhiK (fun k => W.heap.size ≤ k) w' cs' x ∧ Below W.heap.size W w') :
    Calls Tryz.prog 72 #[.slice a xs.length c, .func (.func f) #[] caps] w fun e w' => ∃ a' c', e = .returned (.slice a' xs.length c') ∧ SepK 2 83 PhiK (fun k => w.heap.size ≤ k) w' a' xs.length c' xs ∧ Below w.heap.size w w' := by
  have HF := Lib.hid (And.intro hf hin)
  have hn2 : xs.length ≤ 9223372036854775807 := by omega
  have HN := Lib.hid hn
  clear hf hin hn
  go_enter Tryz.func72, Tryz.ntmps72
  go_wp2_with fail
  go_loopg [5, 10] xs.length (fun G o i wr => ∃ (k : Nat) (oa : Option Addr) (oc : Nat), k + G = xs.length ∧ i = .int .i64 k ∧ o = .slice oa k oc ∧ Hid (SepK 2 83 PhiK (fun b => w.heap.size ≤ b) wr oa k oc (xs.take k) ∧ Below w.heap.size w wr))
  case atStart => exact ⟨0, none, 0, by omega, rfl, rfl, Lib.hid ⟨by simpa using SepK.nil, Below.refl _ _⟩⟩
  case round =>
    obtain ⟨k, oa, oc, hk, rfl, rfl, HB⟩ := hrel
    by_cases hlt : k < xs.length
    · have hki : (k : Int) < (xs.length : Int) := by omega
      obtain ⟨b, off, to, args, args_a, args_c, rfl, hx, c0, c1, hR⟩ := phi_place HF.out.2 hlt
      have d0 := cell_later HB.out.2 c0
      have d1 := cell_later HB.out.2 c1
      have hba : Below wr.heap.size wr (wr.alloc (.cells #[.int .i64 to, .slice args_a args.length args_c] 83)) := (Below.refl _ _).alloc (Nat.le_refl _) _
      have hrow := heap_alloc_new wr (.cells #[.int .i64 to, .slice args_a args.length args_c] 83)
      have e0 := cell_of_row _ _ 0 _ _ _ hrow
      have e1 := cell_of_row _ _ 1 _ _ _ hrow
      simp only [List.getElem?_toArray, List.getElem?_cons_zero, List.getElem?_cons_succ] at e0 e1
      have hb1 := HB.out.2.trans (hba.mono HB.out.2.size)
      have HC := Lib.hid (HF.out.1 _ (List.mem_of_getElem? hx) _ _ hb1 (phiR_lasts _ _ _ _ hb1 hR))
      have HX := Lib.hid (And.intro hx (And.intro hb1 hba))
      clear hx hR hba hrow hb1 c0 c1
      go_wp2_with fail
      refine HC.out.mono ?_
      rintro e w2 ⟨cs', rfl, hx2, hb2⟩
      have hx2' := phiK_sets.here hx2
      obtain ⟨args_a2, args_c2, hcs, -⟩ := hx2
      subst hcs
      simp only at hx2'
      have HY := Lib.hid (show PhiK (fun k => (wr.alloc (.cells #[.int .i64 to, .slice args_a args.length args_c] 83)).heap.size ≤ k ∧ k < w2.heap.size) (w2.alloc (.cells #[.int .i64 to, .slice args_a2 args.length args_c2] 83)) [.int .i64 to, .slice args_a2 args.length args_c2] ⟨to, args⟩ ∧ Below w.heap.size w (w2.alloc (.cells #[.int .i64 to, .slice args_a2 args.length args_c2] 83)) ∧ Below wr.heap.size wr (w2.alloc (.cells #[.int .i64 to, .slice args_a2 args.length args_c2] 83)) ∧ (w2.alloc (.cells #[.int .i64 to, .slice args_a2 args.length args_c2] 83)).heap.size = w2.heap.size + 1 from by
        have hba2 : Below w2.heap.size w2 (w2.alloc (.cells #[.int .i64 to, .slice args_a2 args.length args_c2] 83)) := (Below.refl _ _).alloc (Nat.le_refl _) _
        have h3 := HX.out.2.1.trans (hb2.mono HX.out.2.1.size)
        have h4 := HX.out.2.2.trans (hb2.mono HX.out.2.2.size)
        exact ⟨phiK_sets.below hba2 hx2', h3.trans (hba2.mono h3.size), h4.trans (hba2.mono h4.size), World.size_alloc _ _⟩)
      obtain ⟨cells, G, hrows⟩ := (HB.out.1.here phiK_sets).below phiK_sets HY.out.2.2.1
      have HRW := Lib.hid hrows
      have HSZ := Lib.hid (show wr.heap.size < (wr.alloc (.cells #[.int .i64 to, .slice args_a args.length args_c] 83)).heap.size ∧ (wr.alloc (.cells #[.int .i64 to, .slice args_a args.length args_c] 83)).heap.size ≤ w2.heap.size ∧ w.heap.size ≤ wr.heap.size from ⟨by rw [World.size_alloc]; omega, hb2.size, HB.out.2.size⟩)
      clear hrows hx2' hb2 d0 d1 e0 e1
      go_wp2_with (at_builtin; refine app_phi rfl (.tmp 14) (.tmp 18) rfl 0 _ k _ rfl HRW.out.own _ 1 [.int .i64 to, .slice args_a2 args.length args_c2] rfl (.inr ⟨_, _, rfl, fun i v hv => by (rw [cell_of_row _ _ (0 + i) _ _ _ (heap_alloc_new w2 _)]); simpa using hv⟩) rfl (by intro u hu; (simp only [List.mem_cons, List.not_mem_nil, or_false] at hu); rcases hu with rfl | rfl <;> rfl) (by have := HN.out; omega) (Nat.zero_le _) ?_; intro a9 c9 w9 hown9 hg9 hlies9; (have HP9 := Lib.hid (show SepK 2 83 PhiK (fun b => w.heap.size ≤ b) w9 a9 (k + 1) c9 (xs.take (k + 1)) ∧ Below w.heap.size w w9 from ⟨by (rw [take_succ_of HX.out.1]); exact HRW.out.push phiK_sets HY.out.1 hown9 hg9 hlies9 (fun k hk => by have := HSZ.out; have := HY.out.2.2.2; exact ⟨by omega, by omega, fun h => by omega⟩) (fun k hk => by have := HSZ.out; have := HY.out.2.2.2; exact ⟨hk.1, by omega⟩) (by have := HSZ.out; have := HY.out.2.2.2; omega), HY.out.2.1.grown hg9 HY.out.2.1.size (fun i hi => (HRW.out.row i hi).1)⟩)); clear hown9 hg9 hlies9)
      go_roundg (gk - 1)
      case measure => omega
      case rel => exact ⟨k + 1, _, _, by omega, by go_num, rfl, HP9⟩
    · obtain rfl : k = xs.length := by omega
      have HL := Lib.hid (show SepK 2 83 PhiK (fun b => w.heap.size ≤ b) wr oa xs.length oc xs from by
        have h1 := HB.out.1
        rw [List.take_length] at h1
        exact h1)
      go_wp2
      go_ret
      exact ⟨_, _, rfl, HL.out, HB.out.2⟩

set_option maxRecDepth 100000 in
set_option maxHeartbeats 4000000 in
theorem mappedIns_any (f : Nat) (caps : Array Value) (a : Option Addr) (c : Nat) (xs : List InsD) (w : World) (hin : SliceRd 4 InsR w a xs.length xs) (hn : xs.length ≤ 1048576)
    (hen : ∀ v W, (callFunc f (#[v] ++ caps)).run Tryz.prog W = .ok (.enter f (#[v] ++ caps)) W)
    (hf : ∀ x ∈ xs, ∀ cs W, Below w.heap.size w W → InsR W cs x → Calls Tryz.prog f (#[.agg cs.toArray] ++ caps) W fun e w' => ∃ cs', e = .returned (.agg (List.toArray cs')) ∧ InsK (fun k => W.heap.size ≤ k) w' cs' x ∧ Below W.heap.size W w') :
    Calls Tryz.prog 74 #[.slice a xs.length c, .func (.func f) #[] caps] w fun e w' => ∃ a' c', e = .returned (.slice a' xs.length c') ∧ SepK 4 45 InsK (fun k => w.heap.size ≤ k) w' a' xs.length c' xs ∧ Below w.heap.size w w' := by
  have HF := Lib.hid (And.intro hf hin)
  have hn2 : xs.length ≤ 9223372036854775807 := by omega
  have HN := Lib.hid hn
  clear hf hin hn
  go_enter Tryz.func74, Tryz.ntmps74
  go_wp2_with fail
  go_loopg [5, 10] xs.length (fun G o i wr => ∃ (k : Nat) (oa : Option Addr) (oc : Nat), k + G = xs.length ∧ i = .int .i64 k ∧ o = .slice oa k oc ∧ Hid (SepK 4 45 InsK (fun b => w.heap.size ≤ b) wr oa k oc (xs.take k) ∧ Below w.heap.size w wr))
  case atStart => exact ⟨0, none, 0, by omega, rfl, rfl, Lib.hid ⟨by simpa using SepK.nil, Below.refl _ _⟩⟩
  case round =>
    obtain ⟨k, oa, oc, hk, rfl, rfl, HB⟩ := hrel
    by_cases hlt : k < xs.length
    · have hki : (k : Int) < (xs.length : Int) := by omega
      obtain ⟨b, off, op, to, args, num, args_a, args_c, rfl, hx, c0, c1, c2, c3, hR⟩ := ins_place HF.out.2 hlt
      have d0 := cell_later HB.out.2 c0
      have d1 := cell_later HB.out.2 c1
      have d2 := cell_later HB.out.2 c2
      have d3 := cell_later HB.out.2 c3
      have hba : Below wr.heap.size wr (wr.alloc (.cells #[.int .i64 op, .int .i64 to, .slice args_a args.length args_c, .int .i64 num] 45)) := (Below.refl _ _).alloc (Nat.le_refl _) _
      have hrow := heap_alloc_new wr (.cells #[.int .i64 op, .int .i64 to, .slice args_a args.length args_c, .int .i64 num] 45)
      have e0 := cell_of_row _ _ 0 _ _ _ hrow
      have e1 := cell_of_row _ _ 1 _ _ _ hrow
      have e2 := cell_of_row _ _ 2 _ _ _ hrow
      have e3 := cell_of_row _ _ 3 _ _ _ hrow
      simp only [List.getElem?_toArray, List.getElem?_cons_zero, List.getElem?_cons_succ] at e0 e1 e2 e3
      have hb1 := HB.out.2.trans (hba.mono HB.out.2.size)
      have HC := Lib.hid (HF.out.1 _ (List.mem_of_getElem? hx) _ _ hb1 (insR_lasts _ _ _ _ hb1 hR))
      have HX := Lib.hid (And.intro hx (And.intro hb1 hba))
      clear hx hR hba hrow hb1 c0 c1 c2 c3
      go_wp2_with fail
      refine HC.out.mono ?_
      rintro e w2 ⟨cs', rfl, hx2, hb2⟩
      have hx2' := insK_sets.here hx2
      obtain ⟨args_a2, args_c2, hcs, -⟩ := hx2
      subst hcs
      simp only at hx2'
      have HY := Lib.hid (show InsK (fun k => (wr.alloc (.cells #[.int .i64 op, .int .i64 to, .slice args_a args.length args_c, .int .i64 num] 45)).heap.size ≤ k ∧ k < w2.heap.size) (w2.alloc (.cells #[.int .i64 op, .int .i64 to, .slice args_a2 args.length args_c2, .int .i64 num] 45)) [.int .i64 op, .int .i64 to, .slice args_a2 args.length args_c2, .int .i64 num] ⟨op, to, args, num⟩ ∧ Below w.heap.size w (w2.alloc (.cells #[.int .i64 op, .int .i64 to, .slice args_a2 args.length args_c2, .int .i64 num] 45)) ∧ Below wr.heap.size wr (w2.alloc (.cells #[.int .i64 op, .int .i64 to, .slice args_a2 args.length args_c2, .int .i64 num] 45)) ∧ (w2.alloc (.cells #[.int .i64 op, .int .i64 to, .slice args_a2 args.length args_c2, .int .i64 num] 45)).heap.size = w2.heap.size + 1 from by
        have hba2 : Below w2.heap.size w2 (w2.alloc (.cells #[.int .i64 op, .int .i64 to, .slice args_a2 args.length args_c2, .int .i64 num] 45)) := (Below.refl _ _).alloc (Nat.le_refl _) _
        have h3 := HX.out.2.1.trans (hb2.mono HX.out.2.1.size)
        have h4 := HX.out.2.2.trans (hb2.mono HX.out.2.2.size)
        exact ⟨insK_sets.below hba2 hx2', h3.trans (hba2.mono h3.size), h4.trans (hba2.mono h4.size), World.size_alloc _ _⟩)
      obtain ⟨cells, G, hrows⟩ := (HB.out.1.here insK_sets).below insK_sets HY.out.2.2.1
      have HRW := Lib.hid hrows
      have HSZ := Lib.hid (show wr.heap.size < (wr.alloc (.cells #[.int .i64 op, .int .i64 to, .slice args_a args.length args_c, .int .i64 num] 45)).heap.size ∧ (wr.alloc (.cells #[.int .i64 op, .int .i64 to, .slice args_a args.length args_c, .int .i64 num] 45)).heap.size ≤ w2.heap.size ∧ w.heap.size ≤ wr.heap.size from ⟨by rw [World.size_alloc]; omega, hb2.size, HB.out.2.size⟩)
      clear hrows hx2' hb2 d0 d1 d2 d3 e0 e1 e2 e3
      go_wp2_with (at_builtin; refine app_ins rfl (.tmp 14) (.tmp 18) rfl 0 _ k _ rfl HRW.out.own _ 1 [.int .i64 op, .int .i64 to, .slice args_a2 args.length args_c2, .int .i64 num] rfl (.inr ⟨_, _, rfl, fun i v hv => by (rw [cell_of_row _ _ (0 + i) _ _ _ (heap_alloc_new w2 _)]); simpa using hv⟩) rfl (by intro u hu; (simp only [List.mem_cons, List.not_mem_nil, or_false] at hu); rcases hu with rfl | rfl | rfl | rfl <;> rfl) (by have := HN.out; omega) (Nat.zero_le _) ?_; intro a9 c9 w9 hown9 hg9 hlies9; (have HP9 := Lib.hid (show SepK 4 45 InsK (fun b => w.heap.size ≤ b) w9 a9 (k + 1) c9 (xs.take (k + 1)) ∧ Below w.heap.size w w9 from ⟨by (rw [take_succ_of HX.out.1]); exact HRW.out.push insK_sets HY.out.1 hown9 hg9 hlies9 (fun k hk => by have := HSZ.out; have := HY.out.2.2.2; exact ⟨by omega, by omega, fun h => by omega⟩) (fun k hk => by have := HSZ.out; have := HY.out.2.2.2; exact ⟨hk.1, by omega⟩) (by have := HSZ.out; have := HY.out.2.2.2; omega), HY.out.2.1.grown hg9 HY.out.2.1.size (fun i hi => (HRW.out.row i hi).1)⟩)); clear hown9 hg9 hlies9)
      go_roundg (gk - 1)
      case measure => omega
      case rel => exact ⟨k + 1, _, _, by omega, by go_num, rfl, HP9⟩
    · obtain rfl : k = xs.length := by omega
      have HL := Lib.hid (show SepK 4 45 InsK (fun b => w.heap.size ≤ b) wr oa xs.length oc xs from by
        have h1 := HB.out.1
        rw [List.take_length] at h1
        exact h1)
      go_wp2
      go_ret
      exact ⟨_, _, rfl, HL.out, HB.out.2⟩

set_option maxRecDepth 100000 in
set_option maxHeartbeats 4000000 in
theorem mappedBlock_any (f : Nat) (caps : Array Value) (a : Option Addr) (c : Nat) (xs : List BlockD) (w : World) (hin : SliceRd 5 BlockR w a xs.length xs) (hn : xs.length ≤ 1048576)
    (hen : ∀ v W, (callFunc f (#[v] ++ caps)).run Tryz.prog W = .ok (.enter f (#[v] ++ caps)) W)
    (hf : ∀ x ∈ xs, ∀ cs W, Below w.heap.size w W → BlockR W cs x → Calls Tryz.prog f (#[.agg cs.toArray] ++ caps) W fun e w' => ∃ cs', e = .returned (.agg (List.toArray cs')) ∧ BlockK (fun k => W.heap.size ≤ k) w' cs' x ∧ Below W.heap.size W w') :
    Calls Tryz.prog 49 #[.slice a xs.length c, .func (.func f) #[] caps] w fun e w' => ∃ a' c', e = .returned (.slice a' xs.length c') ∧ SepK 5 49 BlockK (fun k => w.heap.size ≤ k) w' a' xs.length c' xs ∧ Below w.heap.size w w' := by
  have HF := Lib.hid (And.intro hf hin)
  have hn2 : xs.length ≤ 9223372036854775807 := by omega
  have HN := Lib.hid hn
  clear hf hin hn
  go_enter Tryz.func49, Tryz.ntmps49
  go_wp2_with fail
  go_loopg [5, 10] xs.length (fun G o i wr => ∃ (k : Nat) (oa : Option Addr) (oc : Nat), k + G = xs.length ∧ i = .int .i64 k ∧ o = .slice oa k oc ∧ Hid (SepK 5 49 BlockK (fun b => w.heap.size ≤ b) wr oa k oc (xs.take k) ∧ Below w.heap.size w wr))
  case atStart => exact ⟨0, none, 0, by omega, rfl, rfl, Lib.hid ⟨by simpa using SepK.nil, Below.refl _ _⟩⟩
  case round =>
    obtain ⟨k, oa, oc, hk, rfl, rfl, HB⟩ := hrel
    by_cases hlt : k < xs.length
    · have hki : (k : Int) < (xs.length : Int) := by omega
      obtain ⟨b, off, phis, ins, jump, jon, nx, phis_a, phis_c, ins_a, ins_c, nx_a, nx_c, rfl, hx, c0, c1, c2, c3, c4, hR⟩ := block_place HF.out.2 hlt
      have d0 := cell_later HB.out.2 c0
      have d1 := cell_later HB.out.2 c1
      have d2 := cell_later HB.out.2 c2
      have d3 := cell_later HB.out.2 c3
      have d4 := cell_later HB.out.2 c4
      have hba : Below wr.heap.size wr (wr.alloc (.cells #[.slice phis_a phis.length phis_c, .slice ins_a ins.length ins_c, .int .i64 jump, .int .i64 jon, .slice nx_a nx.length nx_c] 49)) := (Below.refl _ _).alloc (Nat.le_refl _) _
      have hrow := heap_alloc_new wr (.cells #[.slice phis_a phis.length phis_c, .slice ins_a ins.length ins_c, .int .i64 jump, .int .i64 jon, .slice nx_a nx.length nx_c] 49)
      have e0 := cell_of_row _ _ 0 _ _ _ hrow
      have e1 := cell_of_row _ _ 1 _ _ _ hrow
      have e2 := cell_of_row _ _ 2 _ _ _ hrow
      have e3 := cell_of_row _ _ 3 _ _ _ hrow
      have e4 := cell_of_row _ _ 4 _ _ _ hrow
      simp only [List.getElem?_toArray, List.getElem?_cons_zero, List.getElem?_cons_succ] at e0 e1 e2 e3 e4
      have hb1 := HB.out.2.trans (hba.mono HB.out.2.size)
      have HC := Lib.hid (HF.out.1 _ (List.mem_of_getElem? hx) _ _ hb1 (blockR_lasts _ _ _ _ hb1 hR))
      have HX := Lib.hid (And.intro hx (And.intro hb1 hba))
      clear hx hR hba hrow hb1 c0 c1 c2 c3 c4
      go_wp2_with fail
      refine HC.out.mono ?_
      rintro e w2 ⟨cs', rfl, hx2, hb2⟩
      have hx2' := blockK_sets.here hx2
      obtain ⟨phis_a2, phis_c2, ins_a2, ins_c2, nx_a2, nx_c2, S1, S2, S3, hcs, -⟩ := hx2
      subst hcs
      simp only at hx2'
      have HY := Lib.hid (show BlockK (fun k => (wr.alloc (.cells #[.slice phis_a phis.length phis_c, .slice ins_a ins.length ins_c, .int .i64 jump, .int .i64 jon, .slice nx_a nx.length nx_c] 49)).heap.size ≤ k ∧ k < w2.heap.size) (w2.alloc (.cells #[.slice phis_a2 phis.length phis_c2, .slice ins_a2 ins.length ins_c2, .int .i64 jump, .int .i64 jon, .slice nx_a2 nx.length nx_c2] 49)) [.slice phis_a2 phis.length phis_c2, .slice ins_a2 ins.length ins_c2, .int .i64 jump, .int .i64 jon, .slice nx_a2 nx.length nx_c2] ⟨phis, ins, jump, jon, nx⟩ ∧ Below w.heap.size w (w2.alloc (.cells #[.slice phis_a2 phis.length phis_c2, .slice ins_a2 ins.length ins_c2, .int .i64 jump, .int .i64 jon, .slice nx_a2 nx.length nx_c2] 49)) ∧ Below wr.heap.size wr (w2.alloc (.cells #[.slice phis_a2 phis.length phis_c2, .slice ins_a2 ins.length ins_c2, .int .i64 jump, .int .i64 jon, .slice nx_a2 nx.length nx_c2] 49)) ∧ (w2.alloc (.cells #[.slice phis_a2 phis.length phis_c2, .slice ins_a2 ins.length ins_c2, .int .i64 jump, .int .i64 jon, .slice nx_a2 nx.length nx_c2] 49)).heap.size = w2.heap.size + 1 from by
        have hba2 : Below w2.heap.size w2 (w2.alloc (.cells #[.slice phis_a2 phis.length phis_c2, .slice ins_a2 ins.length ins_c2, .int .i64 jump, .int .i64 jon, .slice nx_a2 nx.length nx_c2] 49)) := (Below.refl _ _).alloc (Nat.le_refl _) _
        have h3 := HX.out.2.1.trans (hb2.mono HX.out.2.1.size)
        have h4 := HX.out.2.2.trans (hb2.mono HX.out.2.2.size)
        exact ⟨blockK_sets.below hba2 hx2', h3.trans (hba2.mono h3.size), h4.trans (hba2.mono h4.size), World.size_alloc _ _⟩)
      obtain ⟨cells, G, hrows⟩ := (HB.out.1.here blockK_sets).below blockK_sets HY.out.2.2.1
      have HRW := Lib.hid hrows
      have HSZ := Lib.hid (show wr.heap.size < (wr.alloc (.cells #[.slice phis_a phis.length phis_c, .slice ins_a ins.length ins_c, .int .i64 jump, .int .i64 jon, .slice nx_a nx.length nx_c] 49)).heap.size ∧ (wr.alloc (.cells #[.slice phis_a phis.length phis_c, .slice ins_a ins.length ins_c, .int .i64 jump, .int .i64 jon, .slice nx_a nx.length nx_c] 49)).heap.size ≤ w2.heap.size ∧ w.heap.size ≤ wr.heap.size from ⟨by rw [World.size_alloc]; omega, hb2.size, HB.out.2.size⟩)
      clear hrows hx2' hb2 d0 d1 d2 d3 d4 e0 e1 e2 e3 e4
      go_wp2_with (at_builtin; refine app_block rfl (.tmp 14) (.tmp 18) rfl 0 _ k _ rfl HRW.out.own _ 1 [.slice phis_a2 phis.length phis_c2, .slice ins_a2 ins.length ins_c2, .int .i64 jump, .int .i64 jon, .slice nx_a2 nx.length nx_c2] rfl (.inr ⟨_, _, rfl, fun i v hv => by (rw [cell_of_row _ _ (0 + i) _ _ _ (heap_alloc_new w2 _)]); simpa using hv⟩) rfl (by intro u hu; (simp only [List.mem_cons, List.not_mem_nil, or_false] at hu); rcases hu with rfl | rfl | rfl | rfl | rfl <;> rfl) (by have := HN.out; omega) (Nat.zero_le _) ?_; intro a9 c9 w9 hown9 hg9 hlies9; (have HP9 := Lib.hid (show SepK 5 49 BlockK (fun b => w.heap.size ≤ b) w9 a9 (k + 1) c9 (xs.take (k + 1)) ∧ Below w.heap.size w w9 from ⟨by (rw [take_succ_of HX.out.1]); exact HRW.out.push blockK_sets HY.out.1 hown9 hg9 hlies9 (fun k hk => by have := HSZ.out; have := HY.out.2.2.2; exact ⟨by omega, by omega, fun h => by omega⟩) (fun k hk => by have := HSZ.out; have := HY.out.2.2.2; exact ⟨hk.1, by omega⟩) (by have := HSZ.out; have := HY.out.2.2.2; omega), HY.out.2.1.grown hg9 HY.out.2.1.size (fun i hi => (HRW.out.row i hi).1)⟩)); clear hown9 hg9 hlies9)
      go_roundg (gk - 1)
      case measure => omega
      case rel => exact ⟨k + 1, _, _, by omega, by go_num, rfl, HP9⟩
    · obtain rfl : k = xs.length := by omega
      have HL := Lib.hid (show SepK 5 49 BlockK (fun b => w.heap.size ≤ b) wr oa xs.length oc xs from by
        have h1 := HB.out.1
        rw [List.take_length] at h1
        exact h1)
      go_wp2
      go_ret
      exact ⟨_, _, rfl, HL.out, HB.out.2⟩

end Go.Proofs.YtonlidgmfmgcmaaGreat
