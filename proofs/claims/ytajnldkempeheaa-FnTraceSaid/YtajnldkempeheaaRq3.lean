/-
  The reference's run of a unit on the heap: the instructions that say, read or write a cell. (printed by mkrq3.py)
-/
import Derived.Test.YtajnldkempeheaaRq2

namespace Go.Proofs.Ytajnldkempeheaa
open Go.RowKit
set_option linter.unusedVariables false
set_option linter.unusedSimpArgs false

section
variable {doF : Int → Int → Int → Int × Int} {call : Nat → List Int → RunS → Int × RunS}
theorem insDo_say {x : InsD} {regs : List Int} {s : RunS} {a b : Int} (ho : x.op = 13) : insDo doF call x a b regs s = (regs, { s with said := s.said ++ [a] }) := by
  unfold insDo; rw [if_neg (by omega), if_pos ho]
theorem insDo_call {x : InsD} {regs : List Int} {s : RunS} {a b : Int} (ho : x.op = 14) : insDo doF call x a b regs s = (setI regs x.to (call x.num.toNat (x.args.map (atI regs)) s).1, (call x.num.toNat (x.args.map (atI regs)) s).2) := by
  unfold insDo; rw [if_neg (by omega), if_neg (by omega), if_pos ho]
theorem insDo_far {x : InsD} {regs : List Int} {s : RunS} {a b : Int} (ho : x.op = 11 ∨ x.op = 12) (ha : 16 ≤ a) : insDo doF call x a b regs s = (regs, s.stop 2) := by
  unfold insDo; rw [if_neg (by omega), if_neg (by omega), if_neg (by omega), if_pos ha]
theorem insDo_at {x : InsD} {regs : List Int} {s : RunS} {a b : Int} (ho : x.op = 11) (ha : ¬ 16 ≤ a) : insDo doF call x a b regs s = (setI regs x.to (atI s.cells a), s) := by
  unfold insDo; rw [if_neg (by omega), if_neg (by omega), if_neg (by omega), if_neg ha, if_pos ho]
theorem insDo_put {x : InsD} {regs : List Int} {s : RunS} {a b : Int} (ho : x.op = 12) (ha : ¬ 16 ≤ a) : insDo doF call x a b regs s = (regs, { s with cells := setI s.cells a b }) := by
  unfold insDo; rw [if_neg (by omega), if_neg (by omega), if_neg (by omega), if_neg ha, if_neg (by omega)]
end
section
variable {w0 w W w5 : World} {ua : Option Addr} {nu uc rb cb gb n : Nat} {D : Nat → Prop} {sv tv : Value} {s : RunS} {regs : List Int}
/-- Behind an append to what was said. -/
theorem SSt.say (h : SSt w0 ua nu uc rb cb D sv tv W s) (hw : Below w.heap.size w W) (hwl : w0.heap.size ≤ w.heap.size) {a5 : Option Addr} {c5 : Nat} {a : Int}
    (hr : w5.ownsRow w0.heap.size 3 1 (.slice a5 (s.said.length + 1) c5) (s.said.length + 1) (s.said.map (Value.int .i64) ++ [a].map (Value.int .i64))) (hg : W.grownBy w5 sv.ownBlock)
    (hl : (Value.slice a5 (s.said.length + 1) c5).ownBlock = sv.ownBlock ∨ (Value.slice a5 (s.said.length + 1) c5).ownBlock = some W.heap.size) :
    w5.heap[rb]? = some (.cells (sRow ua nu uc cb sv tv s) 56 (0, 0)) ∧
    SSt w0 ua nu uc rb cb (fun k => D k ∨ (Value.slice a5 (s.said.length + 1) c5).ownBlock = some k) (.slice a5 (s.said.length + 1) c5) tv (w5.setCell ⟨rb, 1, none⟩ (.slice a5 (s.said.length + 1) c5)) { s with said := s.said ++ [a] } ∧
    Step D w (fun k => D k ∨ (Value.slice a5 (s.said.length + 1) c5).ownBlock = some k) (w5.setCell ⟨rb, 1, none⟩ (.slice a5 (s.said.length + 1) c5)) := by
  have hrlt := (Array.getElem?_eq_some_iff.1 h.row).1
  have hrow5 : w5.heap[rb]? = some (.cells (sRow ua nu uc cb sv tv s) 56 (0, 0)) := (hg.block rb hrlt (fun e => (h.ds rb e.symm).2.1 rfl)).trans h.row
  have ht1 : Turned D W w5 := turned_of_grown hg (fun k hk => (h.ds k hk).1)
  have ht2 := turned_store w5 rb 1 (.slice a5 (s.said.length + 1) c5)
  have hT : Turned D W (w5.setCell ⟨rb, 1, none⟩ (.slice a5 (s.said.length + 1) c5)) := ht1.trans (ht2.mono (fun k hk => hk ▸ h.dr))
  have hTw : Turned D w (w5.setCell ⟨rb, 1, none⟩ (.slice a5 (s.said.length + 1) c5)) := (turned_of_below hw (fun k h1 h2 => by omega)).trans hT
  have hnb : ∀ k, (Value.slice a5 (s.said.length + 1) c5).ownBlock = some k → (D k ∨ (Value.slice a5 (s.said.length + 1) c5).ownBlock = some k) ∧ k ≠ rb ∧ k ≠ cb ∧ tv.ownBlock ≠ some k := fun k hk => by
    rcases hl with e | e
    · exact ⟨.inr hk, (h.ds k (e ▸ hk)).2⟩
    · have hk0 := hk
      rw [e] at hk
      cases hk
      have hclt := (h.cells.lt cb rfl).2
      exact ⟨.inr hk0, by omega, by omega, fun e2 => by have := (h.trace.lt _ e2).2; omega⟩
  refine ⟨hrow5, ⟨?_, ?_, ?_, ?_, h.ne, .inl h.dr, .inl h.dc, hnb, fun k hk => ⟨.inl (h.dt k hk).1, (h.dt k hk).2⟩, fun k hk => hk.elim (h.lo k) (fun h2 => (hr.lt k h2).1), fun k hk => hk.elim (fun h2 => Nat.lt_of_lt_of_le (h.hi k h2) hT.size) (fun h2 => Nat.lt_of_lt_of_le (hr.lt k h2).2 ht2.size), ?_⟩, ⟨hTw, fun k hk hd => hd.elim id (fun h2 => hl.elim (fun e => (h.ds k (e ▸ h2)).1) (fun e => by rw [e] at h2; cases h2; have := hw.size; omega))⟩⟩
  · rw [heap_setCell_same w5 rb 1 _ _ _ hrow5]; rfl
  · refine own_turned ?_ ht2 (fun k hk => (hnb k hk).2.1)
    show w5.ownsRow _ _ _ _ (s.said ++ [a]).length ((s.said ++ [a]).map (Value.int .i64))
    rw [List.map_append, List.length_append, List.length_singleton]
    exact hr
  · exact own_turned (own_turned h.trace (turned_of_grown hg (S := fun k => sv.ownBlock = some k) (fun k hk => hk)) (fun k hk e => (h.ds k e).2.2.2 hk)) ht2 (fun k hk => (h.dt k hk).2.1)
  · exact own_turned (own_turned h.cells (turned_of_grown hg (S := fun k => sv.ownBlock = some k) (fun k hk => hk)) (fun k hk e => by cases hk; exact (h.ds _ e).2.2.1 rfl)) ht2 (fun k hk => by cases hk; exact fun e => h.ne e.symm)
  · exact h.base.trans (hT.below h.base.size h.lo)
/-- Behind an append to the trace. -/
theorem SSt.walk (h : SSt w0 ua nu uc rb cb D sv tv W s) (hw : Below w.heap.size w W) (hwl : w0.heap.size ≤ w.heap.size) {a5 : Option Addr} {c5 : Nat} {b : Nat}
    (hr : w5.ownsRow w0.heap.size 3 1 (.slice a5 (s.trace.length + 1) c5) (s.trace.length + 1) ((natI s.trace).map (Value.int .i64) ++ [(b : Int)].map (Value.int .i64))) (hg : W.grownBy w5 tv.ownBlock)
    (hl : (Value.slice a5 (s.trace.length + 1) c5).ownBlock = tv.ownBlock ∨ (Value.slice a5 (s.trace.length + 1) c5).ownBlock = some W.heap.size) :
    w5.heap[rb]? = some (.cells (sRow ua nu uc cb sv tv s) 56 (0, 0)) ∧
    SSt w0 ua nu uc rb cb (fun k => D k ∨ (Value.slice a5 (s.trace.length + 1) c5).ownBlock = some k) sv (.slice a5 (s.trace.length + 1) c5) (w5.setCell ⟨rb, 7, none⟩ (.slice a5 (s.trace.length + 1) c5)) { s with trace := s.trace ++ [b] } ∧
    Step D w (fun k => D k ∨ (Value.slice a5 (s.trace.length + 1) c5).ownBlock = some k) (w5.setCell ⟨rb, 7, none⟩ (.slice a5 (s.trace.length + 1) c5)) := by
  have hrlt := (Array.getElem?_eq_some_iff.1 h.row).1
  have hrow5 : w5.heap[rb]? = some (.cells (sRow ua nu uc cb sv tv s) 56 (0, 0)) := (hg.block rb hrlt (fun e => (h.dt rb e.symm).2.1 rfl)).trans h.row
  have ht1 : Turned D W w5 := turned_of_grown hg (fun k hk => (h.dt k hk).1)
  have ht2 := turned_store w5 rb 7 (.slice a5 (s.trace.length + 1) c5)
  have hT : Turned D W (w5.setCell ⟨rb, 7, none⟩ (.slice a5 (s.trace.length + 1) c5)) := ht1.trans (ht2.mono (fun k hk => hk ▸ h.dr))
  have hTw : Turned D w (w5.setCell ⟨rb, 7, none⟩ (.slice a5 (s.trace.length + 1) c5)) := (turned_of_below hw (fun k h1 h2 => by omega)).trans hT
  have hnb : ∀ k, (Value.slice a5 (s.trace.length + 1) c5).ownBlock = some k → (D k ∨ (Value.slice a5 (s.trace.length + 1) c5).ownBlock = some k) ∧ k ≠ rb ∧ k ≠ cb ∧ sv.ownBlock ≠ some k := fun k hk => by
    rcases hl with e | e
    · exact ⟨.inr hk, (h.dt k (e ▸ hk)).2.1, (h.dt k (e ▸ hk)).2.2, fun e2 => (h.ds k e2).2.2.2 (e ▸ hk)⟩
    · have hk0 := hk
      rw [e] at hk
      cases hk
      have hclt := (h.cells.lt cb rfl).2
      exact ⟨.inr hk0, by omega, by omega, fun e2 => by have := (h.said.lt _ e2).2; omega⟩
  refine ⟨hrow5, ⟨?_, ?_, ?_, ?_, h.ne, .inl h.dr, .inl h.dc, fun k hk => ⟨.inl (h.ds k hk).1, (h.ds k hk).2.1, (h.ds k hk).2.2.1, fun e => (hnb k e).2.2.2 hk⟩, fun k hk => ⟨(hnb k hk).1, (hnb k hk).2.1, (hnb k hk).2.2.1⟩, fun k hk => hk.elim (h.lo k) (fun h2 => (hr.lt k h2).1), fun k hk => hk.elim (fun h2 => Nat.lt_of_lt_of_le (h.hi k h2) hT.size) (fun h2 => Nat.lt_of_lt_of_le (hr.lt k h2).2 ht2.size), ?_⟩, ⟨hTw, fun k hk hd => hd.elim id (fun h2 => hl.elim (fun e => (h.dt k (e ▸ h2)).1) (fun e => by rw [e] at h2; cases h2; have := hw.size; omega))⟩⟩
  · rw [heap_setCell_same w5 rb 7 _ _ _ hrow5]; rfl
  · exact own_turned (own_turned h.said (turned_of_grown hg (S := fun k => tv.ownBlock = some k) (fun k hk => hk)) (fun k hk e => (h.ds k hk).2.2.2 e)) ht2 (fun k hk => (h.ds k hk).2.1)
  · refine own_turned ?_ ht2 (fun k hk => (hnb k hk).2.1)
    show w5.ownsRow _ _ _ _ (s.trace ++ [b]).length ((natI (s.trace ++ [b])).map (Value.int .i64))
    rw [natI, List.map_append, List.map_append, List.length_append, List.length_singleton]
    exact hr
  · exact own_turned (own_turned h.cells (turned_of_grown hg (S := fun k => tv.ownBlock = some k) (fun k hk => hk)) (fun k hk e => by cases hk; exact (h.dt _ e).2.2 rfl)) ht2 (fun k hk => by cases hk; exact fun e => h.ne e.symm)
  · exact h.base.trans (hT.below h.base.size h.lo)
/-- A cell is set. -/
theorem SSt.putc (h : SSt w0 ua nu uc rb cb D sv tv W s) (j : Nat) (v : Int) : SSt w0 ua nu uc rb cb D sv tv (W.setCell ⟨cb, j, none⟩ (.int .i64 v)) { s with cells := setI s.cells (j : Int) v } ∧ Step D W D (W.setCell ⟨cb, j, none⟩ (.int .i64 v)) := by
  have ht := turned_store W cb j (.int .i64 v)
  refine ⟨⟨(ht.block rb (Array.getElem?_eq_some_iff.1 h.row).1 h.ne).trans h.row, own_turned h.said ht (fun k hk => (h.ds k hk).2.2.1), own_turned h.trace ht (fun k hk => (h.dt k hk).2.2), ?_, h.ne, h.dr, h.dc, h.ds, h.dt, h.lo, fun k hk => Nat.lt_of_lt_of_le (h.hi k hk) ht.size, h.base.trans (ht.below h.base.size (fun k hk => hk ▸ h.lo _ h.dc))⟩, ⟨ht.mono (fun k hk => hk ▸ h.dc), fun _ _ h => h⟩⟩
  have h1 := (h.cells.stored j (.int .i64 v)).1
  rw [← List.map_set] at h1
  exact h1
theorem SSt.cellAt (h : SSt w0 ua nu uc rb cb D sv tv w s) (hl : s.cells.length = 16) {j : Nat} (hj : j < 16) : w.cell? ⟨cb, j, none⟩ = some (.int .i64 (atI s.cells (j : Int))) := by
  rw [h.cells.cellAt j (by omega), List.getElem?_map, atI_some (by omega)]; rfl
set_option maxRecDepth 100000 in
set_option maxHeartbeats 4000000 in
theorem insS_say (call : Nat → List Int → RunS → Int × RunS) {num tq : Int} {ac ab ao i0 : Nat}  (hi0 : i0 < n) (c0 : w0.cell? ⟨ab, ao, none⟩ = some (.int .i64 (i0 : Int))) (hnl : n ≤ 300) (h : SSt w0 ua nu uc rb cb D sv tv w s) (hr : RgSt w0.heap.size gb n D w regs) (hs : Good s) (hsm : s.said.length + s.left < 60000) :
    Calls Try.prog 54 #[.pointer (some ⟨rb, 0, none⟩), .agg #[.int .i64 13, .int .i64 tq, .slice (some ⟨ab, ao, none⟩) 1 ac, .int .i64 num], .slice (some ⟨gb, 0, none⟩) n n] w fun e w' => e = .returned (.tuple #[]) ∧ InsPost w0 ua nu uc rb cb gb n D w (insRun doD call ⟨13, tq, [(i0 : Int)], num⟩ regs s) w' := by
  have hI : insRun doD call ⟨13, tq, [(i0 : Int)], num⟩ regs s = insDo doD call ⟨13, tq, [(i0 : Int)], num⟩ (atI regs (i0 : Int)) (0) regs s := insRun_of rfl rfl
  rw [hI]
  clear hI
  rw [insDo_say rfl]
  have hba : Below w.heap.size w (w.alloc (.cells #[.int .i64 13, .int .i64 tq, .slice (some ⟨ab, ao, none⟩) 1 ac, .int .i64 num] 83)) := (Below.refl _ _).alloc (Nat.le_refl _) _
  have hS1 := h.later hba
  have hR1 := hr.later hba
  have q0 : (w.alloc (.cells #[.int .i64 13, .int .i64 tq, .slice (some ⟨ab, ao, none⟩) 1 ac, .int .i64 num] 83)).cell? ⟨ab, ao, none⟩ = some (.int .i64 (i0 : Int)) := cell_later hba (cell_later h.base c0)
  have r0 := hR1.at hi0
  have i0l : (i0 : Int) < (n : Int) := by omega
  have hrow1 := hS1.row
  have k1 := hS1.cell 1
  simp only [sRow, List.getElem?_toArray, List.getElem?_cons_zero, List.getElem?_cons_succ] at k1
  have hsl : s.said.length ≤ 60000 := by omega
  have hb2 := hba.trans ((Below.refl (w.alloc (.cells #[.int .i64 13, .int .i64 tq, .slice (some ⟨ab, ao, none⟩) 1 ac, .int .i64 num] 83)).heap.size (w.alloc (.cells #[.int .i64 13, .int .i64 tq, .slice (some ⟨ab, ao, none⟩) 1 ac, .int .i64 num] 83))).alloc (Nat.le_refl _) (.cells #[.int .i64 (atI regs (i0 : Int))] 3) |>.mono hba.size)
  have HS2 := Lib.hid (hS1.later ((Below.refl (w.alloc (.cells #[.int .i64 13, .int .i64 tq, .slice (some ⟨ab, ao, none⟩) 1 ac, .int .i64 num] 83)).heap.size (w.alloc (.cells #[.int .i64 13, .int .i64 tq, .slice (some ⟨ab, ao, none⟩) 1 ac, .int .i64 num] 83))).alloc (Nat.le_refl _) (.cells #[.int .i64 (atI regs (i0 : Int))] 3)))
  have HST := Lib.hid (And.intro hr (And.intro hb2 (And.intro h.base.size hr.lt)))
  generalize atI regs (i0 : Int) = a at r0 HS2 HST ⊢
  have HSL := Lib.hid hsl
  have HRA := Lib.hid (show RowAt (((w.alloc (.cells #[.int .i64 13, .int .i64 tq, .slice (some ⟨ab, ao, none⟩) 1 ac, .int .i64 num] 83))).alloc (.cells #[.int .i64 a] 3)) (some ⟨w.heap.size + 1, 0, none⟩) ([a].map (Value.int .i64)) from by
    have h := rowAt_one (w.alloc (.cells #[.int .i64 13, .int .i64 tq, .slice (some ⟨ab, ao, none⟩) 1 ac, .int .i64 num] 83)) (.int .i64 a) 3
    rw [World.size_alloc] at h
    exact h)
  have HPU := Lib.hid (fun W => l8Pure_any 13 W)
  rw [show inE 1 13 10 = false from rfl] at HPU
  clear h hr hs hba hS1 hR1 hnl hrow1 hb2 hsm
  go_enter Try.func54, Try.ntmps54
  go_wp2_with fail
  refine (HPU.out _).mono ?_
  rintro e w1 ⟨rfl, rfl⟩
  go_wp2_with (at_builtin; refine app_ints rfl (.tmp 76) (.tmp 78) rfl w0.heap.size sv s.said.length _ rfl HS2.out.said _ 1 _ [a] rfl rfl HRA.out (by rintro ⟨⟩) (by omega) HS2.out.base.size ?_; intro a5 c5 w5 hown5 hg5 hlies5; have h5 := HS2.out.say HST.out.2.1 HST.out.2.2.1 hown5 hg5 hlies5; have H5 := Lib.hid h5; have k5 := cell_of_row _ _ 1 _ _ _ h5.1; have z5 := frozen_of_row _ _ 1 _ _ h5.1; simp only [sRow, List.getElem?_toArray, List.getElem?_cons_zero, List.getElem?_cons_succ] at k5; clear h5 hown5 hg5 hlies5)
  go_end0
  obtain ⟨h51, h52, h53⟩ := H5.out
  exact ⟨rfl, _, _, _, h52, HST.out.1.stay h53.turned HST.out.1.out (h53.out HST.out.1.lt.2 HST.out.1.out), ⟨h53.turned.mono (fun k hk => .inl hk), fun k hk hd => hd.elim (fun h2 => .inl (h53.dom k hk h2)) .inr⟩⟩
set_option maxRecDepth 100000 in
set_option maxHeartbeats 4000000 in
theorem insS_farat (call : Nat → List Int → RunS → Int × RunS) {num tq : Int} {ac ab ao i0 : Nat}  (hi0 : i0 < n) (c0 : w0.cell? ⟨ab, ao, none⟩ = some (.int .i64 (i0 : Int))) (hnl : n ≤ 300) (h : SSt w0 ua nu uc rb cb D sv tv w s) (hr : RgSt w0.heap.size gb n D w regs) (hs : Good s) (hfar : 16 ≤ atI regs (i0 : Int)) :
    Calls Try.prog 54 #[.pointer (some ⟨rb, 0, none⟩), .agg #[.int .i64 11, .int .i64 tq, .slice (some ⟨ab, ao, none⟩) 1 ac, .int .i64 num], .slice (some ⟨gb, 0, none⟩) n n] w fun e w' => e = .returned (.tuple #[]) ∧ InsPost w0 ua nu uc rb cb gb n D w (insRun doD call ⟨11, tq, [(i0 : Int)], num⟩ regs s) w' := by
  have hI : insRun doD call ⟨11, tq, [(i0 : Int)], num⟩ regs s = insDo doD call ⟨11, tq, [(i0 : Int)], num⟩ (atI regs (i0 : Int)) (0) regs s := insRun_of rfl rfl
  rw [hI]
  clear hI
  rw [insDo_far (by exact .inl rfl) hfar]
  have hba : Below w.heap.size w (w.alloc (.cells #[.int .i64 11, .int .i64 tq, .slice (some ⟨ab, ao, none⟩) 1 ac, .int .i64 num] 83)) := (Below.refl _ _).alloc (Nat.le_refl _) _
  have hS1 := h.later hba
  have hR1 := hr.later hba
  have q0 : (w.alloc (.cells #[.int .i64 11, .int .i64 tq, .slice (some ⟨ab, ao, none⟩) 1 ac, .int .i64 num] 83)).cell? ⟨ab, ao, none⟩ = some (.int .i64 (i0 : Int)) := cell_later hba (cell_later h.base c0)
  have r0 := hR1.at hi0
  have i0l : (i0 : Int) < (n : Int) := by omega
  have HC := Lib.hid (stopS_any 2 hS1)
  have HP := Lib.hid (fun W (hS : SSt w0 ua nu uc rb cb D sv tv W (s.stop 2)) (hT : Step D (w.alloc (.cells #[.int .i64 11, .int .i64 tq, .slice (some ⟨ab, ao, none⟩) 1 ac, .int .i64 num] 83)) D W) => show InsPost w0 ua nu uc rb cb gb n D w (regs, s.stop 2) W from InsPost.same hS (hR1.stay hT.turned hR1.out hR1.out) ((Step.new (D := D) hba).trans hT))
  clear h hr hs hba hS1 hR1 hnl
  generalize atI regs (i0 : Int) = a at r0 hfar ⊢
  have hge : decide (a ≥ 16) = true := decide_eq_true hfar
  clear hfar
  have HPU := Lib.hid (fun W => l8Pure_any 11 W)
  rw [show inE 1 11 10 = false from rfl] at HPU
  go_enter Try.func54, Try.ntmps54
  go_wp2_with fail
  refine (HPU.out _).mono ?_
  rintro e w1 ⟨rfl, rfl⟩
  go_wp2_with fail
  refine HC.out.mono ?_
  rintro e w2 ⟨rfl, hS2, hT2⟩
  have HF := Lib.hid (HP.out _ hS2 hT2)
  clear hS2 hT2
  go_wp2
  go_end0
  exact ⟨rfl, HF.out⟩
set_option maxRecDepth 100000 in
set_option maxHeartbeats 4000000 in
theorem insS_farput (call : Nat → List Int → RunS → Int × RunS) {num tq : Int} {ac ab ao i0 i1 : Nat}  (hi0 : i0 < n) (c0 : w0.cell? ⟨ab, ao, none⟩ = some (.int .i64 (i0 : Int))) (hi1 : i1 < n) (c1 : w0.cell? ⟨ab, ao + 1, none⟩ = some (.int .i64 (i1 : Int))) (hnl : n ≤ 300) (h : SSt w0 ua nu uc rb cb D sv tv w s) (hr : RgSt w0.heap.size gb n D w regs) (hs : Good s) (hfar : 16 ≤ atI regs (i0 : Int)) :
    Calls Try.prog 54 #[.pointer (some ⟨rb, 0, none⟩), .agg #[.int .i64 12, .int .i64 tq, .slice (some ⟨ab, ao, none⟩) 2 ac, .int .i64 num], .slice (some ⟨gb, 0, none⟩) n n] w fun e w' => e = .returned (.tuple #[]) ∧ InsPost w0 ua nu uc rb cb gb n D w (insRun doD call ⟨12, tq, [(i0 : Int), (i1 : Int)], num⟩ regs s) w' := by
  have hI : insRun doD call ⟨12, tq, [(i0 : Int), (i1 : Int)], num⟩ regs s = insDo doD call ⟨12, tq, [(i0 : Int), (i1 : Int)], num⟩ (atI regs (i0 : Int)) (atI regs (i1 : Int)) regs s := insRun_of rfl rfl
  rw [hI]
  clear hI
  rw [insDo_far (by exact .inr rfl) hfar]
  have hba : Below w.heap.size w (w.alloc (.cells #[.int .i64 12, .int .i64 tq, .slice (some ⟨ab, ao, none⟩) 2 ac, .int .i64 num] 83)) := (Below.refl _ _).alloc (Nat.le_refl _) _
  have hS1 := h.later hba
  have hR1 := hr.later hba
  have q0 : (w.alloc (.cells #[.int .i64 12, .int .i64 tq, .slice (some ⟨ab, ao, none⟩) 2 ac, .int .i64 num] 83)).cell? ⟨ab, ao, none⟩ = some (.int .i64 (i0 : Int)) := cell_later hba (cell_later h.base c0)
  have r0 := hR1.at hi0
  have i0l : (i0 : Int) < (n : Int) := by omega
  have q1 : (w.alloc (.cells #[.int .i64 12, .int .i64 tq, .slice (some ⟨ab, ao, none⟩) 2 ac, .int .i64 num] 83)).cell? ⟨ab, ao + 1, none⟩ = some (.int .i64 (i1 : Int)) := cell_later hba (cell_later h.base c1)
  have r1 := hR1.at hi1
  have i1l : (i1 : Int) < (n : Int) := by omega
  have HC := Lib.hid (stopS_any 2 hS1)
  have HP := Lib.hid (fun W (hS : SSt w0 ua nu uc rb cb D sv tv W (s.stop 2)) (hT : Step D (w.alloc (.cells #[.int .i64 12, .int .i64 tq, .slice (some ⟨ab, ao, none⟩) 2 ac, .int .i64 num] 83)) D W) => show InsPost w0 ua nu uc rb cb gb n D w (regs, s.stop 2) W from InsPost.same hS (hR1.stay hT.turned hR1.out hR1.out) ((Step.new (D := D) hba).trans hT))
  clear h hr hs hba hS1 hR1 hnl
  generalize atI regs (i0 : Int) = a at r0 hfar ⊢
  have hge : decide (a ≥ 16) = true := decide_eq_true hfar
  clear hfar
  have HPU := Lib.hid (fun W => l8Pure_any 12 W)
  rw [show inE 1 12 10 = false from rfl] at HPU
  go_enter Try.func54, Try.ntmps54
  go_wp2_with fail
  refine (HPU.out _).mono ?_
  rintro e w1 ⟨rfl, rfl⟩
  go_wp2_with fail
  refine HC.out.mono ?_
  rintro e w2 ⟨rfl, hS2, hT2⟩
  have HF := Lib.hid (HP.out _ hS2 hT2)
  clear hS2 hT2
  go_wp2
  go_end0
  exact ⟨rfl, HF.out⟩
set_option maxRecDepth 100000 in
set_option maxHeartbeats 4000000 in
theorem insS_at (call : Nat → List Int → RunS → Int × RunS) {num tq : Int} {ac ab ao i0 : Nat}  (htq : 0 ≤ tq ∧ tq < n) (hi0 : i0 < n) (c0 : w0.cell? ⟨ab, ao, none⟩ = some (.int .i64 (i0 : Int))) (hnl : n ≤ 300) (h : SSt w0 ua nu uc rb cb D sv tv w s) (hr : RgSt w0.heap.size gb n D w regs) (hs : Good s) (hnear : atI regs (i0 : Int) < 16) :
    Calls Try.prog 54 #[.pointer (some ⟨rb, 0, none⟩), .agg #[.int .i64 11, .int .i64 tq, .slice (some ⟨ab, ao, none⟩) 1 ac, .int .i64 num], .slice (some ⟨gb, 0, none⟩) n n] w fun e w' => e = .returned (.tuple #[]) ∧ InsPost w0 ua nu uc rb cb gb n D w (insRun doD call ⟨11, tq, [(i0 : Int)], num⟩ regs s) w' := by
  have hI : insRun doD call ⟨11, tq, [(i0 : Int)], num⟩ regs s = insDo doD call ⟨11, tq, [(i0 : Int)], num⟩ (atI regs (i0 : Int)) (0) regs s := insRun_of rfl rfl
  rw [hI]
  clear hI
  rw [insDo_at rfl (by omega)]
  obtain ⟨jt, rfl⟩ : ∃ j : Nat, tq = (j : Int) := ⟨tq.toNat, by omega⟩
  have hba : Below w.heap.size w (w.alloc (.cells #[.int .i64 11, .int .i64 (jt : Int), .slice (some ⟨ab, ao, none⟩) 1 ac, .int .i64 num] 83)) := (Below.refl _ _).alloc (Nat.le_refl _) _
  have hS1 := h.later hba
  have hR1 := hr.later hba
  have q0 : (w.alloc (.cells #[.int .i64 11, .int .i64 (jt : Int), .slice (some ⟨ab, ao, none⟩) 1 ac, .int .i64 num] 83)).cell? ⟨ab, ao, none⟩ = some (.int .i64 (i0 : Int)) := cell_later hba (cell_later h.base c0)
  have r0 := hR1.at hi0
  have i0l : (i0 : Int) < (n : Int) := by omega
  have h0a := (hr.byts.at (i0 : Int)).1
  have rt := hR1.at (j := jt) (by omega)
  have rf := hR1.free jt
  have jl : (jt : Int) < (n : Int) := htq.2
  obtain ⟨ja, hja⟩ : ∃ j : Nat, atI regs (i0 : Int) = (j : Int) := ⟨(atI regs (i0 : Int)).toNat, by omega⟩
  rw [hja] at r0 hnear ⊢
  have k4 := hS1.cell 4
  simp only [sRow, List.getElem?_toArray, List.getElem?_cons_zero, List.getElem?_cons_succ] at k4
  have kc := hS1.cellAt hs.len (j := ja) (by omega)
  have HV := Lib.hid (Byts.at hs.all (ja : Int))
  have HD := Lib.hid (show SSt w0 ua nu uc rb cb D sv tv (w.alloc (.cells #[.int .i64 11, .int .i64 (jt : Int), .slice (some ⟨ab, ao, none⟩) 1 ac, .int .i64 num] 83)).drew s from hS1.later ((Below.refl _ _).drew))
  have HDR := Lib.hid (show RgSt w0.heap.size gb n D (w.alloc (.cells #[.int .i64 11, .int .i64 (jt : Int), .slice (some ⟨ab, ao, none⟩) 1 ac, .int .i64 num] 83)).drew regs from hR1.later ((Below.refl _ _).drew))
  have HP := Lib.hid (InsPost.put HD.out HDR.out ((Step.new (D := D) hba).trans (Step.new ((Below.refl _ _).drew))) jt HV.out)
  generalize atI s.cells (ja : Int) = v at kc HV HP ⊢
  have hge : decide ((ja : Int) ≥ 16) = false := decide_eq_false (by omega)
  clear h hr hs hba hS1 hR1 hnl h0a hja HD HDR htq
  have HPU := Lib.hid (fun W => l8Pure_any 11 W)
  rw [show inE 1 11 10 = false from rfl] at HPU
  go_enter Try.func54, Try.ntmps54
  go_wp2_with fail
  refine (HPU.out _).mono ?_
  rintro e w1 ⟨rfl, rfl⟩
  have m0 : (w.alloc (.cells #[.int .i64 11, .int .i64 (jt : Int), .slice (some ⟨ab, ao, none⟩) 1 ac, .int .i64 num] 83)).cell? ⟨w.heap.size, 0, none⟩ = some (.int .i64 11) := cell_of_row _ _ 0 _ _ _ (heap_alloc_new w _)
  have m1 : (w.alloc (.cells #[.int .i64 11, .int .i64 (jt : Int), .slice (some ⟨ab, ao, none⟩) 1 ac, .int .i64 num] 83)).cell? ⟨w.heap.size, 1, none⟩ = some (.int .i64 (jt : Int)) := cell_of_row _ _ 1 _ _ _ (heap_alloc_new w _)
  go_upto_region 25 with fail
  generalize (w.alloc (.cells #[.int .i64 11, .int .i64 (jt : Int), .slice (some ⟨ab, ao, none⟩) 1 ac, .int .i64 num] 83)) = W1 at q0 r0 rt rf k4 kc HP m0 m1 ⊢
  go_wp2
  go_still_tail 12, (by kernel_rfl)
  change wpList _ _ _ _ _ W1.drew
  go_wp2
  go_end0
  exact ⟨rfl, HP.out⟩
set_option maxRecDepth 100000 in
set_option maxHeartbeats 4000000 in
theorem insS_put (call : Nat → List Int → RunS → Int × RunS) {num tq : Int} {ac ab ao i0 i1 : Nat}  (hi0 : i0 < n) (c0 : w0.cell? ⟨ab, ao, none⟩ = some (.int .i64 (i0 : Int))) (hi1 : i1 < n) (c1 : w0.cell? ⟨ab, ao + 1, none⟩ = some (.int .i64 (i1 : Int))) (hnl : n ≤ 300) (h : SSt w0 ua nu uc rb cb D sv tv w s) (hr : RgSt w0.heap.size gb n D w regs) (hs : Good s) (hnear : atI regs (i0 : Int) < 16) :
    Calls Try.prog 54 #[.pointer (some ⟨rb, 0, none⟩), .agg #[.int .i64 12, .int .i64 tq, .slice (some ⟨ab, ao, none⟩) 2 ac, .int .i64 num], .slice (some ⟨gb, 0, none⟩) n n] w fun e w' => e = .returned (.tuple #[]) ∧ InsPost w0 ua nu uc rb cb gb n D w (insRun doD call ⟨12, tq, [(i0 : Int), (i1 : Int)], num⟩ regs s) w' := by
  have hI : insRun doD call ⟨12, tq, [(i0 : Int), (i1 : Int)], num⟩ regs s = insDo doD call ⟨12, tq, [(i0 : Int), (i1 : Int)], num⟩ (atI regs (i0 : Int)) (atI regs (i1 : Int)) regs s := insRun_of rfl rfl
  rw [hI]
  clear hI
  rw [insDo_put rfl (by omega)]
  have hba : Below w.heap.size w (w.alloc (.cells #[.int .i64 12, .int .i64 tq, .slice (some ⟨ab, ao, none⟩) 2 ac, .int .i64 num] 83)) := (Below.refl _ _).alloc (Nat.le_refl _) _
  have hS1 := h.later hba
  have hR1 := hr.later hba
  have q0 : (w.alloc (.cells #[.int .i64 12, .int .i64 tq, .slice (some ⟨ab, ao, none⟩) 2 ac, .int .i64 num] 83)).cell? ⟨ab, ao, none⟩ = some (.int .i64 (i0 : Int)) := cell_later hba (cell_later h.base c0)
  have r0 := hR1.at hi0
  have i0l : (i0 : Int) < (n : Int) := by omega
  have q1 : (w.alloc (.cells #[.int .i64 12, .int .i64 tq, .slice (some ⟨ab, ao, none⟩) 2 ac, .int .i64 num] 83)).cell? ⟨ab, ao + 1, none⟩ = some (.int .i64 (i1 : Int)) := cell_later hba (cell_later h.base c1)
  have r1 := hR1.at hi1
  have i1l : (i1 : Int) < (n : Int) := by omega
  have h0a := (hr.byts.at (i0 : Int)).1
  obtain ⟨ja, hja⟩ : ∃ j : Nat, atI regs (i0 : Int) = (j : Int) := ⟨(atI regs (i0 : Int)).toNat, by omega⟩
  rw [hja] at r0 hnear ⊢
  have k4 := hS1.cell 4
  simp only [sRow, List.getElem?_toArray, List.getElem?_cons_zero, List.getElem?_cons_succ] at k4
  have kc := hS1.cellAt hs.len (j := ja) (by omega)
  have kf := hS1.cells.frozenAt ja
  generalize atI regs (i1 : Int) = b at r1 ⊢
  have HP := Lib.hid (show InsPost w0 ua nu uc rb cb gb n D w (regs, { s with cells := setI s.cells (ja : Int) b }) ((w.alloc (.cells #[.int .i64 12, .int .i64 tq, .slice (some ⟨ab, ao, none⟩) 2 ac, .int .i64 num] 83)).setCell ⟨cb, ja, none⟩ (.int .i64 b)) from InsPost.same (hS1.putc ja b).1 (hR1.stay (hS1.putc ja b).2.turned hR1.out hR1.out) ((Step.new (D := D) hba).trans (hS1.putc ja b).2))
  generalize atI s.cells (ja : Int) = v at kc
  have hge : decide ((ja : Int) ≥ 16) = false := decide_eq_false (by omega)
  clear h hr hs hba hS1 hR1 hnl h0a hja
  have HPU := Lib.hid (fun W => l8Pure_any 12 W)
  rw [show inE 1 12 10 = false from rfl] at HPU
  go_enter Try.func54, Try.ntmps54
  go_wp2_with fail
  refine (HPU.out _).mono ?_
  rintro e w1 ⟨rfl, rfl⟩
  go_wp2
  go_end0
  exact ⟨rfl, HP.out⟩
end

end Go.Proofs.Ytajnldkempeheaa
