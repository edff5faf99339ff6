/-
  A run of a valid unit, in plain words: its values are bytes, its places lie within.
-/
import Derived.Test.YtajnldkempeheaaRun
import Derived.Test.YtajnldkempeheaaRs
import Derived.Test.YtajnldkempeheaaUvUnit

namespace Go.Proofs.Ytajnldkempeheaa
open Go.RowKit
set_option linter.unusedVariables false

def Byt (v : Int) : Prop := 0 ≤ v ∧ v ≤ 255
theorem byt_zero : Byt 0 := ⟨by omega, by omega⟩
theorem byt_in {v : Int} (h : Byt v) : inE 0 v 255 = true := by simp [inE, h.1, h.2]
theorem doD_byt {op a b : Int} (hop : 1 ≤ op ∧ op ≤ 10) (ha : Byt a) (hb : Byt b) (h : (doD op a b).2 = 0) : Byt (doD op a b).1 := by
  have ht : ∀ c : Bool, Byt (truthI c) := fun c => by cases c <;> simp [truthI, Byt]
  have e : doD op a b = (if op = 1 ∨ op = 2 then (a, 0) else if op = 10 then (truthI (a == 0), 0) else if inE 3 op 9 then arithP (arithD op a b) else (-1, -1)) := by
    rw [doD, byt_in ha, byt_in hb]; rfl
  rw [e] at h ⊢
  split
  · exact ha
  · split
    · exact ht _
    · split
      · rename_i h1 h2 h3
        rw [if_neg h1, if_neg h2, if_pos h3] at h
        cases hr : arithD op a b with
        | none => exact byt_zero
        | some r => exact arithD_range ha hb hr
      · rename_i h1 h2 h3
        exact absurd (by simp only [inE, Bool.and_eq_true, decide_eq_true_eq]; omega) h3

/-! ### what a valid unit has -/
theorem allTo_at {p : Nat → Bool} : ∀ {n : Nat}, allTo p n = true → ∀ {i : Nat}, i < n → p i = true
  | 0, _, i, hi => by omega
  | n + 1, h, i, hi => by
    rw [allTo, Bool.and_eq_true] at h
    by_cases e : i = n
    · subst e; exact h.2
    · exact allTo_at h.1 (by omega)
theorem none_of_any {α : Type} {p : α → Bool} {xs : List α} (h : (!xs.any (fun r => !p r)) = true) : ∀ r ∈ xs, p r = true := fun r hr => by
  rw [Bool.not_eq_true', List.any_eq_false] at h
  simpa using h r hr
structure InsV (us : List CodeD) (k : Nat) (regs : Int) (x : InsD) : Prop where
  op : 1 ≤ x.op ∧ x.op ≤ 14
  args : ∀ r ∈ x.args, 0 ≤ r ∧ r < regs
  dest : x.op ≠ 12 → x.op ≠ 13 → 0 ≤ x.to ∧ x.to < regs
  num : x.op = 1 → x.args.length = 0 ∧ Byt x.num
  call : x.op = 14 → 0 ≤ x.num ∧ x.num < k ∧ (x.args.length : Int) = (us.map (·.params)).getD x.num.toNat 0
  arity : x.op ≠ 1 → x.op ≠ 14 → (x.args.length : Int) = argsN x.op
theorem insV_of {us : List CodeD} {k : Nat} {regs : Int} {x : InsD} (h : insB us k regs x = true) : InsV us k regs x := by
  simp only [insB, Bool.and_eq_true] at h
  obtain ⟨⟨⟨h1, h2⟩, h3⟩, h4⟩ := h
  have hop : 1 ≤ x.op ∧ x.op ≤ 14 := by simpa [isOpB] using h1
  refine ⟨hop, fun r hr => ?_, fun a b => ?_, fun e => ?_, fun e => ?_, fun a b => ?_⟩
  · have := none_of_any h2 r hr
    simp only [inR, Bool.and_eq_true, decide_eq_true_eq] at this
    omega
  · have hm : makesB x.op = true := by simp [makesB, isOpB, hop, a, b]
    rw [toB, hm] at h3
    simp only [if_true, inR, Bool.and_eq_true, decide_eq_true_eq] at h3
    omega
  · rw [tailB, if_pos e] at h4
    simp only [Bool.and_eq_true, beq_iff_eq, byteB, decide_eq_true_eq] at h4
    exact ⟨by omega, h4.2⟩
  · rw [tailB, if_neg (by omega), if_pos e] at h4
    simp only [callB, Bool.and_eq_true, beq_iff_eq, decide_eq_true_eq] at h4
    exact ⟨h4.1.1, by omega, h4.2⟩
  · rw [tailB, if_neg a, if_neg b] at h4
    simp only [Bool.and_eq_true, beq_iff_eq] at h4
    exact h4.2
structure BlkV (us : List CodeD) (k : Nat) (c : CodeD) (b : Nat) (x : BlockD) : Prop where
  next : (x.nx.length : Int) = nextN x.jump
  jon : usesJ x.jump = true → 0 ≤ x.jon ∧ x.jon < c.regs
  nx : ∀ y ∈ x.nx, 1 ≤ y ∧ y < c.blocks.length
  ins : ∀ i ∈ x.ins, InsV us k c.regs i
  phis : ∀ f ∈ x.phis, b ≠ 0 ∧ (0 ≤ f.to ∧ f.to < c.regs) ∧ f.args.length = (preds (nxs c) (b : Int)).length ∧ ∀ r ∈ f.args, 0 ≤ r ∧ r < c.regs
theorem blkV_of {us : List CodeD} {k : Nat} {c : CodeD} {b : Nat} {x : BlockD} (h : blockB us k c b x = true) : BlkV us k c b x := by
  simp only [blockB, Bool.and_eq_true] at h
  obtain ⟨⟨⟨h1, h2⟩, h3⟩, h4⟩ := h
  rw [jumpB, Bool.and_eq_true] at h1
  refine ⟨by simpa using h1.1, fun hj => ?_, fun y hy => ?_, fun i hi => ?_, fun f hf => ?_⟩
  · have := h1.2
    rw [if_pos hj] at this
    simp only [inR, Bool.and_eq_true, decide_eq_true_eq] at this
    omega
  · have := none_of_any h2 y hy
    simp only [inB, Bool.and_eq_true, decide_eq_true_eq] at this
    omega
  · exact insV_of (none_of_any h3 i hi)
  · have := List.all_eq_true.1 h4 f hf
    simp only [phiB, Bool.and_eq_true] at this
    obtain ⟨⟨⟨p1, p2⟩, p3⟩, p4⟩ := this
    simp only [inR, Bool.and_eq_true, decide_eq_true_eq] at p2
    refine ⟨by simpa using p1, ⟨by omega, by omega⟩, Int.ofNat.inj (by simpa using p3), fun r hr => ?_⟩
    have := none_of_any p4 r hr
    simp only [inR, Bool.and_eq_true, decide_eq_true_eq] at this
    omega
structure CodeV (us : List CodeD) (k : Nat) (c : CodeD) : Prop where
  regs : 0 ≤ c.regs ∧ c.regs ≤ 300
  params : 0 ≤ c.params ∧ c.params ≤ 3 ∧ c.params ≤ c.regs
  blocks : 1 ≤ c.blocks.length ∧ c.blocks.length ≤ 160
  blk : ∀ b x, c.blocks[b]? = some x → BlkV us k c b x
theorem codeV_of {us : List CodeD} {k : Nat} {c : CodeD} (h : codeB us k c = true) : CodeV us k c := by
  rw [codeB, Bool.and_eq_true] at h
  have h1 := h.1
  have hm : min 3 c.regs = if 3 ≤ c.regs then 3 else c.regs := rfl
  simp only [limsB, hm, Bool.and_eq_true, decide_eq_true_eq] at h1
  refine ⟨h1.1.1, ?_, by omega, fun b x hx => ?_⟩
  · by_cases h3 : 3 ≤ c.regs
    · rw [if_pos h3] at h1; omega
    · rw [if_neg h3] at h1; omega
  · have := allTo_at h.2 (List.getElem?_eq_some_iff.1 hx).1
    rw [hx] at this
    exact blkV_of this
structure UnitV (us : List CodeD) : Prop where
  len : 1 ≤ us.length ∧ us.length ≤ 4
  code : ∀ k c, us[k]? = some c → CodeV us k c
  size : sumOf cntC us ≤ 800
theorem unitV_of {us : List CodeD} (h : unitB us = true) : UnitV us := by
  rw [unitB, Bool.and_eq_true, Bool.and_eq_true] at h
  have h1 := h.1.1
  have h3 := h.2
  simp only [limB, Bool.and_eq_true, decide_eq_true_eq] at h1
  rw [decide_eq_true_eq] at h3
  refine ⟨by omega, fun k c hk => ?_, by omega⟩
  have := allTo_at h.1.2 (List.getElem?_eq_some_iff.1 hk).1
  rw [hk] at this
  exact codeV_of this
theorem BlkV.jump {us : List CodeD} {k : Nat} {c : CodeD} {b : Nat} {x : BlockD} (h : BlkV us k c b x) : x.jump = 1 ∧ x.nx.length = 1 ∨ x.jump = 2 ∧ x.nx.length = 2 ∨ x.jump = 3 ∧ x.nx.length = 0 := by
  have h1 := h.next
  unfold nextN at h1
  split at h1
  · omega
  · split at h1
    · omega
    · split at h1 <;> omega
theorem UnitV.nextOk {us : List CodeD} (h : UnitV us) {k : Nat} {c : CodeD} (hk : us[k]? = some c) : NextOk c := by
  intro b x hx
  have hb := (h.code k c hk).blk b x hx
  refine ⟨fun hj => ?_, fun p hp => ⟨by have := hb.nx p hp; omega, (hb.nx p hp).2⟩⟩
  rcases hb.jump with ⟨h1, h2⟩ | ⟨h1, h2⟩ | ⟨h1, h2⟩
  · exact ⟨⟨_, List.getElem?_eq_getElem (show 0 < x.nx.length by omega)⟩, fun hn => absurd h1 hn⟩
  · exact ⟨⟨_, List.getElem?_eq_getElem (show 0 < x.nx.length by omega)⟩, fun _ => ⟨_, List.getElem?_eq_getElem (show 1 < x.nx.length by omega)⟩⟩
  · exact absurd h1 hj
theorem UnitV.callsOk {us : List CodeD} (h : UnitV us) : CallsOk us := by
  intro k c hk
  have hc := h.code k c hk
  refine ⟨by have := hc.blocks; omega, fun y hy x hx ho => ?_⟩
  obtain ⟨b, hb⟩ := List.getElem?_of_mem hy
  have := ((hc.blk b y hb).ins x hx).call ho
  omega
theorem preds_mem {c : CodeD} {b : Nat} {x : BlockD} {n : Int} (hb : c.blocks[b]? = some x) (hn : n ∈ x.nx) : (b : Int) ∈ preds (nxs c) n := by
  unfold preds filtTo
  have hlt := (List.getElem?_eq_some_iff.1 hb).1
  refine List.mem_map.2 ⟨b, List.mem_filter.2 ⟨by simp [nxs]; exact hlt, ?_⟩, rfl⟩
  have : (nxs c).getD b [] = x.nx := by rw [nxs, List.getD_eq_getElem?_getD, List.getElem?_map, hb]; rfl
  rw [predB, this]
  exact decide_eq_true hn

/-! ### what the run keeps -/
structure Good (s : RunS) : Prop where
  len : s.cells.length = 16
  all : ∀ v ∈ s.cells, Byt v
  small : s.said.length + s.left ≤ 60000
def Byts (xs : List Int) : Prop := ∀ v ∈ xs, Byt v
theorem Byts.at {xs : List Int} (h : Byts xs) (i : Int) : Byt (atI xs i) := by
  unfold atI
  rw [List.getD_eq_getElem?_getD]
  cases hx : xs[i.toNat]? with
  | none => exact byt_zero
  | some v => exact h v (List.mem_of_getElem? hx)
theorem Byts.set {xs : List Int} (h : Byts xs) (i : Int) {v : Int} (hv : Byt v) : Byts (setI xs i v) := fun y hy => by
  rcases List.mem_or_eq_of_mem_set hy with h1 | h1
  · exact h y h1
  · exact h1 ▸ hv
theorem setI_length (xs : List Int) (i v : Int) : (setI xs i v).length = xs.length := by simp [setI]
theorem Good.same {s t : RunS} (h : Good s) (e : t.cells = s.cells) (e2 : t.said.length + t.left ≤ 60000) : Good t := ⟨by rw [e]; exact h.len, by rw [e]; exact h.all, e2⟩
theorem take_cells (s : RunS) : s.take.cells = s.cells := by unfold RunS.take; split <;> (try split) <;> rfl
theorem take_said (s : RunS) : s.take.said = s.said := by unfold RunS.take; split <;> (try split) <;> rfl
theorem stop_cells (s : RunS) (e : Int) : (s.stop e).cells = s.cells := by unfold RunS.stop; split <;> rfl
theorem stop_said (s : RunS) (e : Int) : (s.stop e).said = s.said := by unfold RunS.stop; split <;> rfl
theorem stop_left (s : RunS) (e : Int) : (s.stop e).left = s.left := by unfold RunS.stop; split <;> rfl
theorem Good.take {s : RunS} (h : Good s) : Good s.take := h.same (take_cells s) (by rw [take_said]; have := h.small; have := RunS.take_left s; omega)
theorem Good.stop {s : RunS} (h : Good s) (e : Int) : Good (s.stop e) := h.same (stop_cells s e) (by rw [stop_said, stop_left]; exact h.small)
section
variable {doF : Int → Int → Int → Int × Int} {call : Nat → List Int → RunS → Int × RunS} {preds : CodeD → Nat → List Int}
def DoOk (doF : Int → Int → Int → Int × Int) : Prop := ∀ op a b, 1 ≤ op ∧ op ≤ 10 → Byt a → Byt b → (doF op a b).2 = 0 → Byt (doF op a b).1
def NumOk (x : InsD) : Prop := x.op ≤ 10 → ¬ x.args.length > 0 → Byt x.num
theorem good_ins (hd : DoOk doF) (hc : ∀ k inp s, Byts inp → Good s → Byt (call k inp s).1 ∧ Good (call k inp s).2) (x : InsD) (hx : NumOk x) (regs : List Int) (s : RunS) (hr : Byts regs) (hs : Good s) (hsm : s.said.length + s.left < 60000) :
    Byts (insRun doF call x regs s).1 ∧ Good (insRun doF call x regs s).2 := by
  have ha : x.op ≤ 10 → Byt (if x.args.length > 0 then atI regs (atI x.args 0) else x.num) := fun ho => by
    split
    · exact hr.at _
    · exact hx ho (by assumption)
  have hb : Byt (if x.args.length > 1 then atI regs (atI x.args 1) else 0) := by
    split
    · exact hr.at _
    · exact byt_zero
  unfold insRun
  generalize (if x.args.length > 0 then atI regs (atI x.args 0) else x.num) = a at ha ⊢
  generalize (if x.args.length > 1 then atI regs (atI x.args 1) else 0) = b at hb ⊢
  unfold insDo
  split
  · rename_i ho
    split
    · rename_i h2
      exact ⟨hr.set _ (hd _ _ _ ho (ha ho.2) hb h2), hs⟩
    · exact ⟨hr, hs.stop _⟩
  · split
    · exact ⟨hr, hs.same rfl (by show (s.said ++ [a]).length + s.left ≤ 60000; rw [List.length_append, List.length_singleton]; omega)⟩
    · split
      · have hi : Byts (x.args.map (atI regs)) := fun v hv => by
          obtain ⟨r, -, rfl⟩ := List.mem_map.1 hv
          exact hr.at _
        obtain ⟨c1, c2⟩ := hc x.num.toNat _ s hi hs
        exact ⟨hr.set _ c1, c2⟩
      · split
        · exact ⟨hr, hs.stop _⟩
        · split
          · exact ⟨hr.set _ (Byts.at hs.all _), hs⟩
          · exact ⟨hr, ⟨by rw [setI_length]; exact hs.len, Byts.set hs.all _ hb, hs.small⟩⟩
theorem good_insAll (hd : DoOk doF) (hc : ∀ k inp s, Byts inp → Good s → Byt (call k inp s).1 ∧ Good (call k inp s).2) : ∀ (xs : List InsD), (∀ x ∈ xs, NumOk x) → ∀ (regs : List Int) (s : RunS), Byts regs → Good s →
    Byts (insAll doF call xs regs s).1 ∧ Good (insAll doF call xs regs s).2
  | [], _, regs, s, hr, hs => ⟨hr, hs⟩
  | x :: xs, hx, regs, s, hr, hs => by
    unfold insAll
    split
    · exact ⟨hr, hs.take⟩
    · rename_i hn
      dsimp only
      have h1 := good_ins hd hc x (hx x (by simp)) regs s.take hr hs.take (by rw [take_said]; have := hs.small; have := RunS.take_lt hn; omega)
      split
      · exact h1
      · exact good_insAll hd hc xs (fun y hy => hx y (by simp [hy])) _ _ h1.1 h1.2
theorem phi_byts (L : List (PhiD × Int)) : (∀ p ∈ L, Byt p.2) → ∀ (regs : List Int), Byts regs → Byts (L.foldl (fun r p => setI r p.1.to p.2) regs) := by
  induction L with
  | nil => intro _ regs h; exact h
  | cons p L ih =>
    intro hp regs h
    rw [List.foldl_cons]
    exact ih (fun q hq => hp q (by simp [hq])) _ (h.set _ (hp p (by simp)))
theorem phiAll_byts (ps : List PhiD) (pl : Nat) (regs : List Int) (h : Byts regs) : Byts (phiAll ps pl regs) :=
  phi_byts _ (fun p hp => by
    have := List.of_mem_zip hp
    obtain ⟨q, -, h2⟩ := List.mem_map.1 this.2
    rw [← h2]
    exact h.at _) _ h
theorem good_block (hd : DoOk doF) (hc : ∀ k inp s, Byts inp → Good s → Byt (call k inp s).1 ∧ Good (call k inp s).2) (c : CodeD) (hx : ∀ y ∈ c.blocks, ∀ x ∈ y.ins, NumOk x) (main : Bool) : ∀ (fuel b : Nat) (regs : List Int) (s : RunS), Byts regs → Good s →
    Byt (blockRun doF call preds c main fuel b regs s).1 ∧ Good (blockRun doF call preds c main fuel b regs s).2
  | 0, _, _, s, _, hs => ⟨byt_zero, hs⟩
  | fuel + 1, b, regs, s, hr, hs => by
    unfold blockRun
    dsimp only
    have h0 : Good (if main then { s with trace := s.trace ++ [b] } else s) := by
      split
      · exact hs.same rfl hs.small
      · exact hs
    generalize (if main then { s with trace := s.trace ++ [b] } else s) = s1 at h0 ⊢
    have hy : ∀ x ∈ (c.blocks.getD b ⟨[], [], 3, 0, []⟩).ins, NumOk x := by
      by_cases hb : b < c.blocks.length
      · rw [List.getD_eq_getElem?_getD, List.getElem?_eq_getElem hb, Option.getD_some]
        exact hx _ (List.getElem_mem hb)
      · rw [List.getD_eq_getElem?_getD, List.getElem?_eq_none (by omega), Option.getD_none]
        intro x hx; cases hx
    have h1 := good_insAll hd hc (c.blocks.getD b ⟨[], [], 3, 0, []⟩).ins hy regs s1 hr h0
    split
    · exact ⟨byt_zero, h1.2⟩
    · split
      · exact ⟨byt_zero, h1.2.take⟩
      · split
        · exact ⟨h1.1.at _, h1.2.take⟩
        · exact good_block hd hc c hx main fuel _ _ _ (phiAll_byts _ _ _ h1.1) h1.2.take
theorem good_code (hd : DoOk doF) (us : List CodeD) (hx : ∀ c ∈ us, ∀ y ∈ c.blocks, ∀ x ∈ y.ins, NumOk x) : ∀ (d k : Nat) (inp : List Int) (s : RunS), Byts inp → Good s → Byt (codeRun doF preds us d k inp s).1 ∧ Good (codeRun doF preds us d k inp s).2
  | 0, _, _, s, _, hs => ⟨byt_zero, hs⟩
  | d + 1, k, inp, s, hi, hs => by
    unfold codeRun
    dsimp only
    have hy : ∀ y ∈ (us.getD k ⟨0, 0, []⟩).blocks, ∀ x ∈ y.ins, NumOk x := by
      by_cases hb : k < us.length
      · rw [List.getD_eq_getElem?_getD, List.getElem?_eq_getElem hb, Option.getD_some]
        exact hx _ (List.getElem_mem hb)
      · rw [List.getD_eq_getElem?_getD, List.getElem?_eq_none (by omega), Option.getD_none]
        intro y hy; cases hy
    refine good_block hd (good_code hd us hx d) _ hy _ _ _ _ _ (fun v hv => ?_) hs
    rcases List.mem_append.1 hv with h | h
    · exact hi v h
    · rw [(List.mem_replicate.1 h).2]; exact byt_zero
theorem UnitV.numOk {us : List CodeD} (h : UnitV us) : ∀ c ∈ us, ∀ y ∈ c.blocks, ∀ x ∈ y.ins, NumOk x := by
  intro c hc y hy x hx ho hn
  obtain ⟨k, hk⟩ := List.getElem?_of_mem hc
  obtain ⟨b, hb⟩ := List.getElem?_of_mem hy
  have hv := ((h.code k c hk).blk b y hb).ins x hx
  by_cases h1 : x.op = 1
  · exact (hv.num h1).2
  · exfalso
    have h2 := hv.arity h1 (by omega)
    have h3 := hv.op
    unfold argsN at h2
    rw [if_neg h1] at h2
    split at h2 <;> omega
theorem start_good {n : Nat} (h : n ≤ 60000) : Good (startS n) := ⟨rfl, fun v hv => by rw [(List.mem_replicate.1 hv).2]; exact byt_zero, by show 0 + n ≤ 60000; omega⟩
end
theorem doD_ok : DoOk doD := fun _ _ _ h1 h2 h3 h4 => doD_byt h1 h2 h3 h4
/-- The blocks ahead of a block, of a code. -/
def predsC (c : CodeD) (b : Nat) : List Int := preds (nxs c) (b : Int)
/-- The run of a unit with numbers. -/
def runP (us : List CodeD) (inp : List Int) (n : Nat) : Int × RunS := codeRun doD predsC us us.length (us.length - 1) inp (startS n)

end Go.Proofs.Ytajnldkempeheaa
