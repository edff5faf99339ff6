/-
  A run of a unit, in plain words (for FnTrace and FnSteps; under way).
-/
import Derived.Test.YtajnldkempeheaaUnitData

namespace Go.Proofs.Ytajnldkempeheaa
open Go.RowKit
set_option linter.unusedVariables false

/-- A run: the steps left, what was said, the cells, the main code's blocks, and how it ended, if it has. -/
structure RunS where
  left : Nat
  said : List Int
  cells : List Int
  trace : List Nat
  fin : Option Int
/-- One step is taken: the run ends (3) if none is left. -/
def RunS.take (s : RunS) : RunS := match s.fin with
  | some _ => s
  | none => if s.left = 0 then { s with fin := some 3 } else { s with left := s.left - 1 }
def RunS.stop (s : RunS) (e : Int) : RunS := match s.fin with
  | some _ => s
  | none => { s with fin := some e }
def atI (xs : List Int) (i : Int) : Int := xs.getD i.toNat 0
def setI (xs : List Int) (i v : Int) : List Int := xs.set i.toNat v
/-- An instruction of the values a and b, behind its step. doF: what a pure one makes; call: what a call does. -/
def insDo (doF : Int → Int → Int → Int × Int) (call : Nat → List Int → RunS → Int × RunS) (x : InsD) (a b : Int) (regs : List Int) (s : RunS) : List Int × RunS :=
  if 1 ≤ x.op ∧ x.op ≤ 10 then
    (if (doF x.op a b).2 = 0 then (setI regs x.to (doF x.op a b).1, s) else (regs, s.stop (doF x.op a b).2))
  else if x.op = 13 then (regs, { s with said := s.said ++ [a] })
  else if x.op = 14 then (setI regs x.to (call x.num.toNat (x.args.map (atI regs)) s).1, (call x.num.toNat (x.args.map (atI regs)) s).2)
  else if 16 ≤ a then (regs, s.stop 2)
  else if x.op = 11 then (setI regs x.to (atI s.cells a), s)
  else (regs, { s with cells := setI s.cells a b })
def insRun (doF : Int → Int → Int → Int × Int) (call : Nat → List Int → RunS → Int × RunS) (x : InsD) (regs : List Int) (s : RunS) : List Int × RunS :=
  insDo doF call x (if x.args.length > 0 then atI regs (atI x.args 0) else x.num) (if x.args.length > 1 then atI regs (atI x.args 1) else 0) regs s
/-- The instructions, one behind the other, each behind its step, while the run goes on. -/
def insAll (doF : Int → Int → Int → Int × Int) (call : Nat → List Int → RunS → Int × RunS) : List InsD → List Int → RunS → List Int × RunS
  | [], regs, s => (regs, s)
  | x :: xs, regs, s =>
    match s.take.fin with
    | some _ => (regs, s.take)
    | none =>
      let r := insRun doF call x regs s.take
      match r.2.fin with
      | some _ => r
      | none => insAll doF call xs r.1 r.2
/-- The phis of a block, when one comes from the one at the place `at` of its predecessors: all are read before one is set. -/
def phiAll (ps : List PhiD) (pl : Nat) (regs : List Int) : List Int :=
  (ps.zip (ps.map (fun p => atI regs (p.args.getD pl 0)))).foldl (fun r p => setI r p.1.to p.2) regs
def nextOf (x : BlockD) (regs : List Int) : Nat :=
  if x.jump = 1 ∨ atI regs x.jon ≠ 0 then (x.nx.getD 0 0).toNat else (x.nx.getD 1 0).toNat
/-- A code from a block on; `fuel` bounds the blocks (one step at least is taken in each). -/
def blockRun (doF : Int → Int → Int → Int × Int) (call : Nat → List Int → RunS → Int × RunS) (preds : CodeD → Nat → List Int) (c : CodeD) (main : Bool) : Nat → Nat → List Int → RunS → Int × RunS
  | 0, _, _, s => (0, s)
  | fuel + 1, b, regs, s =>
    let x := c.blocks.getD b ⟨[], [], 3, 0, []⟩
    let s := if main then { s with trace := s.trace ++ [b] } else s
    let r := insAll doF call x.ins regs s
    match r.2.fin with
    | some _ => (0, r.2)
    | none =>
      match r.2.take.fin with
      | some _ => (0, r.2.take)
      | none =>
        if x.jump = 3 then (atI r.1 x.jon, r.2.take)
        else
          let n := nextOf x r.1
          blockRun doF call preds c main fuel n (phiAll (c.blocks.getD n ⟨[], [], 3, 0, []⟩).phis ((preds c n).idxOf (b : Int)) r.1) r.2.take
/-- A code of a unit; `d` bounds how deep calls nest (a code calls earlier ones alone). -/
def codeRun (doF : Int → Int → Int → Int × Int) (preds : CodeD → Nat → List Int) (us : List CodeD) : Nat → Nat → List Int → RunS → Int × RunS
  | 0, _, _, s => (0, s)
  | d + 1, k, inp, s =>
    let c := us.getD k ⟨0, 0, []⟩
    blockRun doF (codeRun doF preds us d) preds c (k + 1 == us.length) (s.left + 1) 0 (inp ++ List.replicate (c.regs.toNat - inp.length) 0) s

theorem RunS.take_left (s : RunS) : s.take.left ≤ s.left := by
  unfold RunS.take
  split
  · exact Nat.le_refl _
  · split
    · exact Nat.le_refl _
    · exact Nat.sub_le _ _
theorem RunS.take_lt {s : RunS} (h : s.take.fin = none) : s.take.left + 1 = s.left := by
  unfold RunS.take at h ⊢
  split
  · rename_i e he
    simp [he] at h
  · rename_i he
    simp only [he] at h
    split
    · rename_i h0
      simp [h0] at h
    · show s.left - 1 + 1 = s.left
      omega

/-- What a run has behind it: what was said stays, the trace stays, steps only go. -/
structure Grow (s t : RunS) : Prop where
  said : s.said <+: t.said
  trace : s.trace <+: t.trace
  left : t.left ≤ s.left
theorem Grow.refl (s : RunS) : Grow s s := ⟨List.prefix_refl _, List.prefix_refl _, Nat.le_refl _⟩
theorem Grow.trans {s t u : RunS} (h : Grow s t) (h2 : Grow t u) : Grow s u := ⟨h.said.trans h2.said, h.trace.trans h2.trace, Nat.le_trans h2.left h.left⟩
theorem grow_take (s : RunS) : Grow s s.take := by
  refine ⟨?_, ?_, RunS.take_left s⟩ <;> unfold RunS.take <;> split <;> try split
  all_goals exact List.prefix_refl _
theorem grow_stop (s : RunS) (e : Int) : Grow s (s.stop e) := by
  unfold RunS.stop
  split
  · exact Grow.refl _
  · exact ⟨List.prefix_refl _, List.prefix_refl _, Nat.le_refl _⟩
section
variable {doF : Int → Int → Int → Int × Int} {call : Nat → List Int → RunS → Int × RunS} {preds : CodeD → Nat → List Int}
theorem grow_ins (hc : ∀ k inp s, Grow s (call k inp s).2) (x : InsD) (regs : List Int) (s : RunS) : Grow s (insRun doF call x regs s).2 := by
  unfold insRun
  generalize (if x.args.length > 0 then atI regs (atI x.args 0) else x.num) = a
  generalize (if x.args.length > 1 then atI regs (atI x.args 1) else 0) = b
  unfold insDo
  split
  · split
    · exact Grow.refl _
    · exact grow_stop _ _
  · split
    · exact ⟨List.prefix_append _ _, List.prefix_refl _, Nat.le_refl _⟩
    · split
      · exact hc _ _ _
      · split
        · exact grow_stop _ _
        · split
          · exact Grow.refl _
          · exact ⟨List.prefix_refl _, List.prefix_refl _, Nat.le_refl _⟩
theorem grow_insAll (hc : ∀ k inp s, Grow s (call k inp s).2) : ∀ (xs : List InsD) (regs : List Int) (s : RunS), Grow s (insAll doF call xs regs s).2
  | [], _, s => Grow.refl s
  | x :: xs, regs, s => by
    unfold insAll
    split
    · exact grow_take s
    · dsimp only
      have h1 := (grow_take s).trans (grow_ins (doF := doF) hc x regs s.take)
      split
      · exact h1
      · exact h1.trans (grow_insAll hc xs _ _)
theorem grow_block (hc : ∀ k inp s, Grow s (call k inp s).2) (c : CodeD) (main : Bool) : ∀ (fuel b : Nat) (regs : List Int) (s : RunS), Grow s (blockRun doF call preds c main fuel b regs s).2
  | 0, _, _, s => Grow.refl s
  | fuel + 1, b, regs, s => by
    unfold blockRun
    dsimp only
    have h0 : Grow s (if main then { s with trace := s.trace ++ [b] } else s) := by
      split
      · exact ⟨List.prefix_refl _, List.prefix_append _ _, Nat.le_refl _⟩
      · exact Grow.refl _
    generalize (if main then { s with trace := s.trace ++ [b] } else s) = s1 at h0 ⊢
    have h1 := h0.trans (grow_insAll (doF := doF) hc (c.blocks.getD b ⟨[], [], 3, 0, []⟩).ins regs s1)
    split
    · exact h1
    · have h2 := h1.trans (grow_take _)
      split
      · exact h2
      · split
        · exact h2
        · exact h2.trans (grow_block hc c main fuel _ _ _)
theorem grow_code (us : List CodeD) : ∀ (d k : Nat) (inp : List Int) (s : RunS), Grow s (codeRun doF preds us d k inp s).2
  | 0, _, _, s => Grow.refl s
  | d + 1, k, inp, s => by
    unfold codeRun
    dsimp only
    exact grow_block (grow_code us d) _ _ _ _ _ _
end

/-- The same run with n more steps left. -/
def RunS.more (s : RunS) (n : Nat) : RunS := { s with left := s.left + n }
/-- With n more steps: the same, or the shorter run had no step left when the longer one went on. -/
def After {α : Type} (n : Nat) (r r' : α × RunS) : Prop := r' = (r.1, r.2.more n) ∨ (r.2.fin = some 3 ∧ r'.2.left < n ∧ r.2.said <+: r'.2.said ∧ r.2.trace <+: r'.2.trace)
theorem After.grow {α β : Type} {n : Nat} {r r' : α × RunS} {q : β × RunS} (x : β) (h1 : r.2.fin = some 3) (h2 : r'.2.left < n) (h3 : r.2.said <+: r'.2.said) (h4 : r.2.trace <+: r'.2.trace) (hg : Grow r'.2 q.2) : After n (x, r.2) q :=
  .inr ⟨h1, Nat.lt_of_le_of_lt hg.left h2, h3.trans hg.said, h4.trans hg.trace⟩
theorem take_some {s : RunS} (h : s.fin = none) (h0 : s.left ≠ 0) : s.take = { s with left := s.left - 1 } := by
  unfold RunS.take
  rw [h]
  simp [h0]
theorem take_none {s : RunS} (h : s.fin = none) (h0 : s.left = 0) : s.take = { s with fin := some 3 } := by
  unfold RunS.take
  rw [h]
  simp [h0]
theorem take_more {s : RunS} {n : Nat} (h : s.fin = none) (h0 : s.left ≠ 0) : (s.more n).take = s.take.more n := by
  rw [take_some h h0, take_some (s := s.more n) h (by show s.left + n ≠ 0; omega)]
  show RunS.mk _ _ _ _ _ = RunS.mk _ _ _ _ _
  congr 1
  show s.left + n - 1 = s.left - 1 + n
  omega
section
variable {doF : Int → Int → Int → Int × Int} {call : Nat → List Int → RunS → Int × RunS} {preds : CodeD → Nat → List Int} {n : Nat}
theorem after_ins (hc : ∀ k inp s, s.fin = none → After n (call k inp s) (call k inp (s.more n))) (x : InsD) (regs : List Int) (s : RunS) (h : s.fin = none) : After n (insRun doF call x regs s) (insRun doF call x regs (s.more n)) := by
  unfold insRun
  generalize (if x.args.length > 0 then atI regs (atI x.args 0) else x.num) = a
  generalize (if x.args.length > 1 then atI regs (atI x.args 1) else 0) = b
  have hst : ∀ e, (s.more n).stop e = (s.stop e).more n := fun e => by
    have h' : (s.more n).fin = none := h
    unfold RunS.stop
    rw [h, h']
    rfl
  unfold insDo
  split
  · split
    · exact .inl rfl
    · exact .inl (by rw [hst])
  · split
    · exact .inl rfl
    · split
      · rcases hc x.num.toNat (x.args.map (atI regs)) s h with h1 | ⟨h1, h2, h3, h4⟩
        · exact .inl (by rw [h1])
        · exact .inr ⟨h1, h2, h3, h4⟩
      · split
        · exact .inl (by rw [hst])
        · split
          · exact .inl rfl
          · exact .inl rfl
theorem after_insAll (hn : 0 < n) (hg : ∀ k inp s, Grow s (call k inp s).2) (hc : ∀ k inp s, s.fin = none → After n (call k inp s) (call k inp (s.more n))) : ∀ (xs : List InsD) (regs : List Int) (s : RunS), s.fin = none → After n (insAll doF call xs regs s) (insAll doF call xs regs (s.more n))
  | [], _, s, _ => .inl rfl
  | x :: xs, regs, s, h => by
    by_cases h0 : s.left = 0
    · have h1 := take_none h h0
      have h2 := take_some (s := s.more n) h (by show s.left + n ≠ 0; omega)
      have hf1 : s.take.fin = some 3 := by rw [h1]
      have hf2 : (s.more n).take.fin = none := by rw [h2]; exact h
      have hl2 : (s.more n).take.left < n := by rw [h2]; show s.left + n - 1 < n; omega
      have hG : Grow (s.more n).take (insAll doF call (x :: xs) regs (s.more n)).2 := by
        unfold insAll
        rw [hf2]
        dsimp only
        have h3 := grow_ins (doF := doF) hg x regs (s.more n).take
        split
        · exact h3
        · exact h3.trans (grow_insAll hg xs _ _)
      have hS : insAll doF call (x :: xs) regs s = (regs, s.take) := by
        unfold insAll
        rw [hf1]
      rw [hS]
      refine .inr ⟨hf1, Nat.lt_of_le_of_lt hG.left hl2, ?_, ?_⟩
      · refine List.IsPrefix.trans ?_ hG.said
        rw [h1, h2]; exact List.prefix_refl _
      · refine List.IsPrefix.trans ?_ hG.trace
        rw [h1, h2]; exact List.prefix_refl _
    · have hm := take_more (n := n) h h0
      have hf1 : s.take.fin = none := by rw [take_some h h0]; exact h
      have hf2 : (s.take.more n).fin = none := hf1
      have hA := after_ins (doF := doF) hc x regs s.take hf1
      unfold insAll
      rw [hm, hf1, hf2]
      dsimp only
      generalize insRun doF call x regs s.take = r at hA ⊢
      generalize insRun doF call x regs (s.take.more n) = r' at hA ⊢
      rcases hA with hA | ⟨a1, a2, a3, a4⟩
      · subst hA
        cases hr : r.2.fin with
        | some e =>
          have : (r.2.more n).fin = some e := hr
          rw [this]
          exact .inl rfl
        | none =>
          have : (r.2.more n).fin = none := hr
          rw [this]
          exact after_insAll hn hg hc xs r.1 r.2 hr
      · rw [a1]
        dsimp only
        split
        · exact .inr ⟨a1, a2, a3, a4⟩
        · exact After.grow r.1 a1 a2 a3 a4 (grow_insAll hg xs _ _)
theorem after_block (hn : 0 < n) (hg : ∀ k inp s, Grow s (call k inp s).2) (hc : ∀ k inp s, s.fin = none → After n (call k inp s) (call k inp (s.more n))) (c : CodeD) (main : Bool) : ∀ (fuel fuel' b : Nat) (regs : List Int) (s : RunS), s.fin = none → s.left < fuel → s.left + n < fuel' → After n (blockRun doF call preds c main fuel b regs s) (blockRun doF call preds c main fuel' b regs (s.more n))
  | 0, _, _, _, _, _, h1, _ => absurd h1 (Nat.not_lt_zero _)
  | _ + 1, 0, _, _, _, _, _, h2 => absurd h2 (Nat.not_lt_zero _)
  | fuel + 1, fuel' + 1, b, regs, s, h, h1, h2 => by
    unfold blockRun
    dsimp only
    have e1 : (if main then { s.more n with trace := (s.more n).trace ++ [b] } else s.more n) = (if main then { s with trace := s.trace ++ [b] } else s).more n := by cases main <;> rfl
    have e2 : (if main then { s with trace := s.trace ++ [b] } else s).fin = none := by cases main <;> exact h
    have e3 : (if main then { s with trace := s.trace ++ [b] } else s).left = s.left := by cases main <;> rfl
    rw [e1]
    generalize (if main then { s with trace := s.trace ++ [b] } else s) = s1 at e2 e3 ⊢
    clear e1
    generalize c.blocks.getD b ⟨[], [], 3, 0, []⟩ = x
    have hA := after_insAll (doF := doF) hn hg hc x.ins regs s1 e2
    have hL := (grow_insAll (doF := doF) hg x.ins regs s1).left
    generalize insAll doF call x.ins regs s1 = r at hA hL ⊢
    generalize insAll doF call x.ins regs (s1.more n) = r' at hA ⊢
    have hG : Grow r'.2 (match r'.2.fin with
      | some _ => ((0 : Int), r'.2)
      | none => match r'.2.take.fin with
        | some _ => (0, r'.2.take)
        | none => if x.jump = 3 then (atI r'.1 x.jon, r'.2.take) else
          blockRun doF call preds c main fuel' (nextOf x r'.1) (phiAll (c.blocks.getD (nextOf x r'.1) ⟨[], [], 3, 0, []⟩).phis ((preds c (nextOf x r'.1)).idxOf (b : Int)) r'.1) r'.2.take).2 := by
      split
      · exact Grow.refl _
      · split
        · exact grow_take _
        · split
          · exact grow_take _
          · exact (grow_take _).trans (grow_block hg c main fuel' _ _ _)
    rcases hA with hA | ⟨a1, a2, a3, a4⟩
    · subst hA
      cases hr : r.2.fin with
      | some e =>
        have hr' : (r.2.more n).fin = some e := hr
        rw [hr']
        exact .inl rfl
      | none =>
        have hr' : (r.2.more n).fin = none := hr
        by_cases h0 : r.2.left = 0
        · have t1 := take_none hr h0
          have t2 := take_some (s := r.2.more n) hr' (by show r.2.left + n ≠ 0; omega)
          have f1 : r.2.take.fin = some 3 := by rw [t1]
          have f2 : (r.2.more n).take.fin = none := by rw [t2]; exact hr'
          rw [hr', f1, f2]
          dsimp only
          have hq : Grow (r.2.more n).take (if x.jump = 3 then (atI r.1 x.jon, (r.2.more n).take) else
              blockRun doF call preds c main fuel' (nextOf x r.1) (phiAll (c.blocks.getD (nextOf x r.1) ⟨[], [], 3, 0, []⟩).phis ((preds c (nextOf x r.1)).idxOf (b : Int)) r.1) (r.2.more n).take).2 := by
            split
            · exact Grow.refl _
            · exact grow_block hg c main fuel' _ _ _
          refine .inr ⟨f1, Nat.lt_of_le_of_lt hq.left ?_, ?_, ?_⟩
          · rw [t2]; show r.2.left + n - 1 < n; omega
          · refine List.IsPrefix.trans ?_ hq.said
            rw [t1, t2]; exact List.prefix_refl _
          · refine List.IsPrefix.trans ?_ hq.trace
            rw [t1, t2]; exact List.prefix_refl _
        · have hm := take_more (n := n) hr h0
          have f1 : r.2.take.fin = none := by rw [take_some hr h0]; exact hr
          have f2 : (r.2.take.more n).fin = none := f1
          have hl := RunS.take_lt f1
          rw [hr', hm, f1, f2]
          dsimp only
          split
          · exact .inl rfl
          · exact after_block hn hg hc c main fuel fuel' _ _ r.2.take f1 (by omega) (by omega)
    · rw [a1]
      exact .inr ⟨a1, Nat.lt_of_le_of_lt hG.left a2, a3.trans hG.said, a4.trans hG.trace⟩
theorem after_code (hn : 0 < n) (us : List CodeD) : ∀ (d k : Nat) (inp : List Int) (s : RunS), s.fin = none → After n (codeRun doF preds us d k inp s) (codeRun doF preds us d k inp (s.more n))
  | 0, _, _, _, _ => .inl rfl
  | d + 1, k, inp, s, h => by
    unfold codeRun
    dsimp only
    exact after_block hn (grow_code us d) (fun k inp s hs => after_code hn us d k inp s hs) _ _ _ _ _ _ _ h (by omega) (by show s.left + n < s.left + n + 1; omega)
theorem take_trace (s : RunS) : s.take.trace = s.trace := by
  unfold RunS.take
  split
  · rfl
  · split <;> rfl
theorem stop_trace (s : RunS) (e : Int) : (s.stop e).trace = s.trace := by
  unfold RunS.stop
  split <;> rfl
theorem ins_trace (x : InsD) (hc : x.op = 14 → ∀ inp s, (call x.num.toNat inp s).2.trace = s.trace) (regs : List Int) (s : RunS) : (insRun doF call x regs s).2.trace = s.trace := by
  unfold insRun
  generalize (if x.args.length > 0 then atI regs (atI x.args 0) else x.num) = a
  generalize (if x.args.length > 1 then atI regs (atI x.args 1) else 0) = b
  unfold insDo
  split
  · split
    · rfl
    · exact stop_trace _ _
  · split
    · rfl
    · split
      · rename_i h
        exact hc h _ _
      · split
        · exact stop_trace _ _
        · split <;> rfl
theorem insAll_trace : ∀ (xs : List InsD) (hc : ∀ x ∈ xs, x.op = 14 → ∀ inp s, (call x.num.toNat inp s).2.trace = s.trace) (regs : List Int) (s : RunS), (insAll doF call xs regs s).2.trace = s.trace
  | [], _, _, s => rfl
  | x :: xs, hc, regs, s => by
    unfold insAll
    split
    · exact take_trace s
    · dsimp only
      have h1 := (ins_trace (doF := doF) x (hc x (by simp)) regs s.take).trans (take_trace s)
      split
      · exact h1
      · exact (insAll_trace xs (fun y hy => hc y (by simp [hy])) _ _).trans h1
/-- Calls leave the trace as it is, in a code whose calls do. -/
theorem block_trace (c : CodeD) (hc : ∀ y ∈ c.blocks, ∀ x ∈ y.ins, x.op = 14 → ∀ inp s, (call x.num.toNat inp s).2.trace = s.trace) : ∀ (fuel b : Nat) (regs : List Int) (s : RunS), (blockRun doF call preds c false fuel b regs s).2.trace = s.trace
  | 0, _, _, s => rfl
  | fuel + 1, b, regs, s => by
    unfold blockRun
    dsimp only
    have hx : ∀ x ∈ (c.blocks.getD b ⟨[], [], 3, 0, []⟩).ins, x.op = 14 → ∀ inp s, (call x.num.toNat inp s).2.trace = s.trace := by
      by_cases hb : b < c.blocks.length
      · rw [List.getD_eq_getElem?_getD, List.getElem?_eq_getElem hb, Option.getD_some]
        exact hc _ (List.getElem_mem hb)
      · rw [List.getD_eq_getElem?_getD, List.getElem?_eq_none (by omega), Option.getD_none]
        intro x hx; cases hx
    simp only [Bool.false_eq_true, if_false]
    have h1 := insAll_trace (doF := doF) (c.blocks.getD b ⟨[], [], 3, 0, []⟩).ins hx regs s
    split
    · exact h1
    · split
      · exact (take_trace _).trans h1
      · split
        · exact (take_trace _).trans h1
        · exact (block_trace c hc fuel _ _ _).trans ((take_trace _).trans h1)
/-- From a block on, the trace goes along the jumps. -/
inductive Walks (c : CodeD) : Nat → List Nat → Prop
  | one (b : Nat) : Walks c b [b]
  | step (b m : Nat) (L : List Nat) (x : BlockD) (hx : c.blocks[b]? = some x) (hm : (m : Int) ∈ x.nx) (h : Walks c m L) : Walks c b (b :: L)
/-- What a valid code's blocks have: the places that they lead to. -/
def NextOk (c : CodeD) : Prop := ∀ (b : Nat) (x : BlockD), c.blocks[b]? = some x → (x.jump ≠ 3 → (∃ p, x.nx[0]? = some p) ∧ (x.jump ≠ 1 → ∃ p, x.nx[1]? = some p)) ∧ ∀ p ∈ x.nx, 0 ≤ p ∧ p < c.blocks.length
theorem nextOf_ok {c : CodeD} (hv : NextOk c) {b : Nat} {x : BlockD} (hx : c.blocks[b]? = some x) (hj : x.jump ≠ 3) (regs : List Int) : (nextOf x regs : Int) ∈ x.nx ∧ nextOf x regs < c.blocks.length := by
  obtain ⟨h1, h2⟩ := hv b x hx
  obtain ⟨⟨p, hp⟩, h3⟩ := h1 hj
  have key : ∀ (i : Nat) (p : Int), x.nx[i]? = some p → ((x.nx.getD i 0).toNat : Int) ∈ x.nx ∧ (x.nx.getD i 0).toNat < c.blocks.length := fun i p hp => by
    rw [List.getD_eq_getElem?_getD, hp, Option.getD_some]
    have hm := List.mem_of_getElem? hp
    obtain ⟨h4, h5⟩ := h2 p hm
    rw [Int.toNat_of_nonneg h4]
    exact ⟨hm, by omega⟩
  unfold nextOf
  split
  · exact key 0 p hp
  · rename_i h
    obtain ⟨q, hq⟩ := h3 (fun e => h (.inl e))
    exact key 1 q hq
theorem block_walks (hg : ∀ k inp s, Grow s (call k inp s).2) (c : CodeD) (hv : NextOk c) (hc : ∀ y ∈ c.blocks, ∀ x ∈ y.ins, x.op = 14 → ∀ inp s, (call x.num.toNat inp s).2.trace = s.trace) : ∀ (fuel b : Nat) (regs : List Int) (s : RunS), b < c.blocks.length → s.left < fuel →
    ∃ L, Walks c b L ∧ (blockRun doF call preds c true fuel b regs s).2.trace = s.trace ++ L
  | 0, _, _, _, _, h => absurd h (Nat.not_lt_zero _)
  | fuel + 1, b, regs, s, hb, hf => by
    unfold blockRun
    have hxe : c.blocks[b]? = some (c.blocks[b]'hb) := List.getElem?_eq_getElem hb
    have hxd : c.blocks.getD b ⟨[], [], 3, 0, []⟩ = c.blocks[b]'hb := by rw [List.getD_eq_getElem?_getD, hxe, Option.getD_some]
    rw [hxd]
    have hx := hc _ (List.getElem_mem hb)
    generalize c.blocks[b]'hb = x at hxe hx ⊢
    simp only [if_true]
    have h1 := insAll_trace (doF := doF) x.ins hx regs { s with trace := s.trace ++ [b] }
    have hl : (insAll doF call x.ins regs { s with trace := s.trace ++ [b] }).2.left ≤ s.left := (grow_insAll (doF := doF) hg x.ins regs { s with trace := s.trace ++ [b] }).left
    generalize insAll doF call x.ins regs { s with trace := s.trace ++ [b] } = r at h1 hl ⊢
    have h2 : r.2.take.trace = s.trace ++ [b] := (take_trace _).trans h1
    split
    · exact ⟨[b], .one b, h1⟩
    · split
      · exact ⟨[b], .one b, h2⟩
      · rename_i hn
        split
        · exact ⟨[b], .one b, h2⟩
        · rename_i hj
          obtain ⟨m1, m2⟩ := nextOf_ok hv hxe hj r.1
          have h3 := RunS.take_lt hn
          obtain ⟨L, w1, w2⟩ := block_walks hg c hv hc fuel (nextOf x r.1) (phiAll (c.blocks.getD (nextOf x r.1) ⟨[], [], 3, 0, []⟩).phis ((preds c (nextOf x r.1)).idxOf (b : Int)) r.1) r.2.take m2 (by omega)
          exact ⟨b :: L, .step b _ L x hxe m1 w1, by rw [w2, h2]; simp⟩
/-- Calls go to earlier codes, and codes have blocks. -/
def CallsOk (us : List CodeD) : Prop := ∀ (k : Nat) (c : CodeD), us[k]? = some c → 0 < c.blocks.length ∧ ∀ y ∈ c.blocks, ∀ x ∈ y.ins, x.op = 14 → x.num.toNat < k
theorem code_trace (us : List CodeD) (hv : CallsOk us) : ∀ (d k : Nat) (inp : List Int) (s : RunS), k + 1 < us.length → (codeRun doF preds us d k inp s).2.trace = s.trace
  | 0, _, _, _, _ => rfl
  | d + 1, k, inp, s, hk => by
    unfold codeRun
    dsimp only
    have hx : us[k]? = some (us[k]'(by omega)) := List.getElem?_eq_getElem (by omega)
    rw [List.getD_eq_getElem?_getD, hx, Option.getD_some]
    have hb : (k + 1 == us.length) = false := by simp; omega
    rw [hb]
    exact block_trace _ (fun y hy x hx2 ho inp s => code_trace us hv d x.num.toNat inp s (by have := (hv k _ hx).2 y hy x hx2 ho; omega)) _ _ _ _
theorem main_walks (us : List CodeD) (hv : CallsOk us) (d : Nat) (c : CodeD) (hc : us[us.length - 1]? = some c) (hn : NextOk c) (inp : List Int) (s : RunS) :
    ∃ L, Walks c 0 L ∧ (codeRun doF preds us (d + 1) (us.length - 1) inp s).2.trace = s.trace ++ L := by
  have hl : us.length - 1 < us.length := (List.getElem?_eq_some_iff.1 hc).1
  unfold codeRun
  dsimp only
  rw [List.getD_eq_getElem?_getD, hc, Option.getD_some]
  have hb : (us.length - 1 + 1 == us.length) = true := by simp; omega
  rw [hb]
  exact block_walks (grow_code us d) c hn (fun y hy x hx2 ho inp s => code_trace us hv d x.num.toNat inp s (by have := (hv _ c hc).2 y hy x hx2 ho; omega)) _ _ _ _ (hv _ c hc).1 (by omega)
theorem Walks.zero {c : CodeD} {b : Nat} {L : List Nat} (h : Walks c b L) : L[0]? = some b := by cases h <;> rfl
/-- Each but the first is a place that the one ahead of it leads to. -/
theorem Walks.leads {c : CodeD} {b : Nat} {L : List Nat} (h : Walks c b L) : ∀ {i p q : Nat}, L[i]? = some p → L[i + 1]? = some q → ∃ x, c.blocks[p]? = some x ∧ (q : Int) ∈ x.nx := by
  induction h with
  | one b => intro i p q h1 h2; simp at h2
  | step b m L x hx hm hw ih =>
    intro i p q h1 h2
    cases i with
    | zero =>
      simp only [List.getElem?_cons_zero, Option.some.injEq] at h1
      subst h1
      rw [List.getElem?_cons_succ, hw.zero] at h2
      cases h2
      exact ⟨x, hx, hm⟩
    | succ i =>
      rw [List.getElem?_cons_succ] at h1 h2
      exact ih h1 h2
def startS (n : Nat) : RunS := ⟨n, [], List.replicate 16 0, [], none⟩
theorem start_more (n m : Nat) : (startS n).more m = startS (n + m) := rfl
/-- Without a step the run ends at once. -/
theorem code_none (us : List CodeD) (d k : Nat) (inp : List Int) : (codeRun doF preds us (d + 1) k inp (startS 0)).2.fin = some 3 := by
  unfold codeRun
  dsimp only
  unfold blockRun
  dsimp only
  have e2 : (if (k + 1 == us.length) = true then { startS 0 with trace := (startS 0).trace ++ [0] } else startS 0).fin = none := by split <;> rfl
  have e3 : (if (k + 1 == us.length) = true then { startS 0 with trace := (startS 0).trace ++ [0] } else startS 0).left = 0 := by split <;> rfl
  generalize (if (k + 1 == us.length) = true then { startS 0 with trace := (startS 0).trace ++ [0] } else startS 0) = s1 at e2 e3 ⊢
  have ht : s1.take.fin = some 3 := by rw [take_none e2 e3]
  generalize (us.getD k ⟨0, 0, []⟩).blocks.getD 0 ⟨[], [], 3, 0, []⟩ = x
  cases hx : x.ins with
  | nil =>
    unfold insAll
    dsimp only
    rw [e2, ht]
    exact ht
  | cons y ys =>
    unfold insAll
    rw [ht]
    dsimp only
    rw [ht]
    exact ht
/-- The law of FnSteps: M steps are enough; n is how many were taken. -/
theorem steps_law (us : List CodeD) (d k : Nat) (inp : List Int) (M : Nat) (hf : (codeRun doF preds us (d + 1) k inp (startS M)).2.fin ≠ some 3) :
    0 < M - (codeRun doF preds us (d + 1) k inp (startS M)).2.left ∧
    (codeRun doF preds us (d + 1) k inp (startS (M - (codeRun doF preds us (d + 1) k inp (startS M)).2.left))).2.fin ≠ some 3 ∧
    (codeRun doF preds us (d + 1) k inp (startS (M - (codeRun doF preds us (d + 1) k inp (startS M)).2.left))).2.said = (codeRun doF preds us (d + 1) k inp (startS M)).2.said ∧
    (codeRun doF preds us (d + 1) k inp (startS (M - (codeRun doF preds us (d + 1) k inp (startS M)).2.left - 1))).2.fin = some 3 ∧
    (codeRun doF preds us (d + 1) k inp (startS (M - (codeRun doF preds us (d + 1) k inp (startS M)).2.left - 1))).2.said <+: (codeRun doF preds us (d + 1) k inp (startS M)).2.said := by
  have hA : ∀ (n m : Nat), 0 < m → n + m = M → After m (codeRun doF preds us (d + 1) k inp (startS n)) (codeRun doF preds us (d + 1) k inp (startS M)) := fun n m hm he => by
    rw [← he, ← start_more]
    exact after_code hm us (d + 1) k inp (startS n) rfl
  have hM : (codeRun doF preds us (d + 1) k inp (startS M)).2.left ≤ M := (grow_code us (d + 1) k inp (startS M)).left
  generalize hF : codeRun doF preds us (d + 1) k inp (startS M) = F at hA hM hf ⊢
  have hn : 0 < M - F.2.left := by
    rcases Nat.lt_or_ge 0 (M - F.2.left) with h | h
    · exact h
    · exfalso
      rcases Nat.eq_zero_or_pos M with h0 | h0
      · subst h0
        exact hf (by rw [← hF]; exact code_none us d k inp)
      · rcases hA 0 M h0 (by omega) with h1 | ⟨-, h1, -, -⟩
        · exact hf (by rw [h1]; exact code_none us d k inp)
        · omega
  have h2 := hA (M - F.2.left - 1) (F.2.left + 1) (by omega) (by omega)
  have h2' : (codeRun doF preds us (d + 1) k inp (startS (M - F.2.left - 1))).2.fin = some 3 ∧ (codeRun doF preds us (d + 1) k inp (startS (M - F.2.left - 1))).2.said <+: F.2.said := by
    rcases h2 with h2 | ⟨h3, -, h4, -⟩
    · exfalso
      have := congrArg (fun q => q.2.left) h2
      have h5 : F.2.left = (codeRun doF preds us (d + 1) k inp (startS (M - F.2.left - 1))).2.left + (F.2.left + 1) := this
      omega
    · exact ⟨h3, h4⟩
  have h1' : (codeRun doF preds us (d + 1) k inp (startS (M - F.2.left))).2.fin = F.2.fin ∧ (codeRun doF preds us (d + 1) k inp (startS (M - F.2.left))).2.said = F.2.said := by
    rcases Nat.eq_zero_or_pos F.2.left with h0 | h0
    · rw [h0, Nat.sub_zero, hF]
      exact ⟨rfl, rfl⟩
    · rcases hA (M - F.2.left) F.2.left h0 (by omega) with h1 | ⟨-, h1, -, -⟩
      · have a := congrArg (fun q => q.2.fin) h1
        have b := congrArg (fun q => q.2.said) h1
        exact ⟨a.symm, b.symm⟩
      · omega
  exact ⟨hn, by rw [h1'.1]; exact hf, h1'.2, h2'.1, h2'.2⟩
end

end Go.Proofs.Ytajnldkempeheaa
