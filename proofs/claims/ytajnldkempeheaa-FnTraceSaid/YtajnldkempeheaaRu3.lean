/-
  The program's run of a unit on the heap: to say, to call; an instruction, whatever it is. (printed by mkru3.py)
-/
import Derived.Test.YtajnldkempeheaaRu2

namespace Go.Proofs.Ytajnldkempeheaa
open Go.RowKit
set_option linter.unusedVariables false
set_option linter.unusedSimpArgs false

theorem later_drewN {w W : World} (h : Below w.heap.size w W) (n : Nat) : Below w.heap.size w (W.drewN n) := below_drewN h n
theorem later_alloc {w W : World} (h : Below w.heap.size w W) (o : Obj) : Below w.heap.size w (W.alloc o) := h.alloc h.size o
section
variable {w0 w W w5 : World} {ua : Option Addr} {nu uc rb N : Nat} {D : Nat → Prop} {sv tv : Value} {s : RunS}
/-- Behind an append to what was said. -/
theorem MSt.say (h : MSt w0 ua nu uc rb N D sv tv W s) (hw : Below w.heap.size w W) (hwl : w0.heap.size ≤ w.heap.size) {a5 : Option Addr} {c5 : Nat} {a : Int}
    (hr : w5.ownsRow w0.heap.size 3 1 (.slice a5 (s.said.length + 1) c5) (s.said.length + 1) (s.said.map (Value.int .i64) ++ [a].map (Value.int .i64))) (hg : W.grownBy w5 sv.ownBlock)
    (hl : (Value.slice a5 (s.said.length + 1) c5).ownBlock = sv.ownBlock ∨ (Value.slice a5 (s.said.length + 1) c5).ownBlock = some W.heap.size) :
    w5.heap[rb]? = some (.cells (mList ua nu uc N sv tv s).toArray 52 (0, 0)) ∧
    MSt w0 ua nu uc rb N (fun k => D k ∨ (Value.slice a5 (s.said.length + 1) c5).ownBlock = some k) (.slice a5 (s.said.length + 1) c5) tv (w5.setCell ⟨rb, 3, none⟩ (.slice a5 (s.said.length + 1) c5)) { s with said := s.said ++ [a] } ∧
    Step D w (fun k => D k ∨ (Value.slice a5 (s.said.length + 1) c5).ownBlock = some k) (w5.setCell ⟨rb, 3, none⟩ (.slice a5 (s.said.length + 1) c5)) := by
  have hrlt := (Array.getElem?_eq_some_iff.1 h.row).1
  have hrow5 : w5.heap[rb]? = some (.cells (mList ua nu uc N sv tv s).toArray 52 (0, 0)) := (hg.block rb hrlt (fun e => (h.ds rb e.symm).2.1 rfl)).trans h.row
  have ht1 : Turned D W w5 := turned_of_grown hg (fun k hk => (h.ds k hk).1)
  have ht2 := turned_store w5 rb 3 (.slice a5 (s.said.length + 1) c5)
  have hT : Turned D W (w5.setCell ⟨rb, 3, none⟩ (.slice a5 (s.said.length + 1) c5)) := ht1.trans (ht2.mono (fun k hk => hk ▸ h.dr))
  have hTw : Turned D w (w5.setCell ⟨rb, 3, none⟩ (.slice a5 (s.said.length + 1) c5)) := (turned_of_below hw (fun k h1 h2 => by omega)).trans hT
  have hnb : ∀ k, (Value.slice a5 (s.said.length + 1) c5).ownBlock = some k → (D k ∨ (Value.slice a5 (s.said.length + 1) c5).ownBlock = some k) ∧ k ≠ rb ∧ tv.ownBlock ≠ some k := fun k hk => by
    rcases hl with e | e
    · exact ⟨.inr hk, (h.ds k (e ▸ hk)).2⟩
    · have hk0 := hk
      rw [e] at hk
      cases hk
      exact ⟨.inr hk0, by omega, fun e2 => by have := (h.trace.lt _ e2).2; omega⟩
  refine ⟨hrow5, ⟨?_, h.len, h.fuel, ?_, ?_, .inl h.dr, hnb, fun k hk => ⟨.inl (h.dt k hk).1, (h.dt k hk).2⟩, fun k hk => hk.elim (h.lo k) (fun h2 => (hr.lt k h2).1), fun k hk => hk.elim (fun h2 => Nat.lt_of_lt_of_le (h.hi k h2) hT.size) (fun h2 => Nat.lt_of_lt_of_le (hr.lt k h2).2 ht2.size), ?_⟩, ⟨hTw, fun k hk hd => hd.elim id (fun h2 => hl.elim (fun e => (h.ds k (e ▸ h2)).1) (fun e => by rw [e] at h2; cases h2; have := hw.size; omega))⟩⟩
  · rw [heap_setCell_same w5 rb 3 _ _ _ hrow5, List.setIfInBounds_toArray]; rfl
  · refine own_turned ?_ ht2 (fun k hk => (hnb k hk).2.1)
    show w5.ownsRow _ _ _ _ (s.said ++ [a]).length ((s.said ++ [a]).map (Value.int .i64))
    rw [List.map_append, List.length_append, List.length_singleton]
    exact hr
  · exact own_turned (own_turned h.trace (turned_of_grown hg (S := fun k => sv.ownBlock = some k) (fun k hk => hk)) (fun k hk e => (h.ds k e).2.2 hk)) ht2 (fun k hk => (h.dt k hk).2)
  · exact h.base.trans (hT.below h.base.size h.lo)
/-- Behind an append to the trace. -/
theorem MSt.walk (h : MSt w0 ua nu uc rb N D sv tv W s) (hw : Below w.heap.size w W) (hwl : w0.heap.size ≤ w.heap.size) {a5 : Option Addr} {c5 : Nat} {b : Nat}
    (hr : w5.ownsRow w0.heap.size 3 1 (.slice a5 (s.trace.length + 1) c5) (s.trace.length + 1) ((natI s.trace).map (Value.int .i64) ++ [(b : Int)].map (Value.int .i64))) (hg : W.grownBy w5 tv.ownBlock)
    (hl : (Value.slice a5 (s.trace.length + 1) c5).ownBlock = tv.ownBlock ∨ (Value.slice a5 (s.trace.length + 1) c5).ownBlock = some W.heap.size) :
    w5.heap[rb]? = some (.cells (mList ua nu uc N sv tv s).toArray 52 (0, 0)) ∧
    MSt w0 ua nu uc rb N (fun k => D k ∨ (Value.slice a5 (s.trace.length + 1) c5).ownBlock = some k) sv (.slice a5 (s.trace.length + 1) c5) (w5.setCell ⟨rb, 20, none⟩ (.slice a5 (s.trace.length + 1) c5)) { s with trace := s.trace ++ [b] } ∧
    Step D w (fun k => D k ∨ (Value.slice a5 (s.trace.length + 1) c5).ownBlock = some k) (w5.setCell ⟨rb, 20, none⟩ (.slice a5 (s.trace.length + 1) c5)) := by
  have hrlt := (Array.getElem?_eq_some_iff.1 h.row).1
  have hrow5 : w5.heap[rb]? = some (.cells (mList ua nu uc N sv tv s).toArray 52 (0, 0)) := (hg.block rb hrlt (fun e => (h.dt rb e.symm).2 rfl)).trans h.row
  have ht1 : Turned D W w5 := turned_of_grown hg (fun k hk => (h.dt k hk).1)
  have ht2 := turned_store w5 rb 20 (.slice a5 (s.trace.length + 1) c5)
  have hT : Turned D W (w5.setCell ⟨rb, 20, none⟩ (.slice a5 (s.trace.length + 1) c5)) := ht1.trans (ht2.mono (fun k hk => hk ▸ h.dr))
  have hTw : Turned D w (w5.setCell ⟨rb, 20, none⟩ (.slice a5 (s.trace.length + 1) c5)) := (turned_of_below hw (fun k h1 h2 => by omega)).trans hT
  have hnb : ∀ k, (Value.slice a5 (s.trace.length + 1) c5).ownBlock = some k → (D k ∨ (Value.slice a5 (s.trace.length + 1) c5).ownBlock = some k) ∧ k ≠ rb ∧ sv.ownBlock ≠ some k := fun k hk => by
    rcases hl with e | e
    · exact ⟨.inr hk, (h.dt k (e ▸ hk)).2, fun e2 => (h.ds k e2).2.2 (e ▸ hk)⟩
    · have hk0 := hk
      rw [e] at hk
      cases hk
      exact ⟨.inr hk0, by omega, fun e2 => by have := (h.said.lt _ e2).2; omega⟩
  refine ⟨hrow5, ⟨?_, h.len, h.fuel, ?_, ?_, .inl h.dr, fun k hk => ⟨.inl (h.ds k hk).1, (h.ds k hk).2.1, fun e => (hnb k e).2.2 hk⟩, fun k hk => ⟨(hnb k hk).1, (hnb k hk).2.1⟩, fun k hk => hk.elim (h.lo k) (fun h2 => (hr.lt k h2).1), fun k hk => hk.elim (fun h2 => Nat.lt_of_lt_of_le (h.hi k h2) hT.size) (fun h2 => Nat.lt_of_lt_of_le (hr.lt k h2).2 ht2.size), ?_⟩, ⟨hTw, fun k hk hd => hd.elim id (fun h2 => hl.elim (fun e => (h.dt k (e ▸ h2)).1) (fun e => by rw [e] at h2; cases h2; have := hw.size; omega))⟩⟩
  · rw [heap_setCell_same w5 rb 20 _ _ _ hrow5, List.setIfInBounds_toArray]
    show some (Obj.cells (_ :: _ :: _ :: _ :: ((s.cells.map (Value.int .i64) ++ [tv]).set 16 _)).toArray _ _) = _
    rw [List.set_append_right _ _ (by simp [h.len]), List.length_map, h.len]
    rfl
  · exact own_turned (own_turned h.said (turned_of_grown hg (S := fun k => tv.ownBlock = some k) (fun k hk => hk)) (fun k hk e => (h.ds k hk).2.2 e)) ht2 (fun k hk => (h.ds k hk).2.1)
  · refine own_turned ?_ ht2 (fun k hk => (hnb k hk).2.1)
    show w5.ownsRow _ _ _ _ (s.trace ++ [b]).length ((natI (s.trace ++ [b])).map (Value.int .i64))
    rw [natI, List.map_append, List.map_append, List.length_append, List.length_singleton]
    exact hr
  · exact h.base.trans (hT.below h.base.size h.lo)
end
section
variable {w0 w W W' : World} {ua : Option Addr} {nu uc rb N gb n xb : Nat} {X : List Value} {D : Nat → Prop} {sv tv : Value} {s : RunS} {regs : List Int}
set_option maxRecDepth 100000 in
set_option maxHeartbeats 4000000 in
theorem insI_say (call : Nat → List Int → RunS → Int × RunS) {num tq : Int} {ac ab ao i0 : Nat} (hi0 : i0 < n) (c0 : w0.cell? ⟨ab, ao, none⟩ = some (.int .i64 (i0 : Int))) (hnl : n ≤ 300) (hN : N ≤ 60000) (h : MSt w0 ua nu uc rb N D sv tv w s) (hr : RgSt w0.heap.size gb n D w regs) (hs : Good s) (hf : s.fin = none) (htk : s.take.fin = none) :
    Calls Try.prog 50 #[.pointer (some ⟨rb, 0, none⟩), .agg #[.int .i64 13, .int .i64 tq, .slice (some ⟨ab, ao, none⟩) 1 ac, .int .i64 num], .slice (some ⟨gb, 0, none⟩) n n] w fun e w' => e = outE (insRun doD call ⟨13, tq, [(i0 : Int)], num⟩ regs s.take).2.fin (.tuple #[]) ∧ IPost w0 ua nu uc rb N gb n D w (insRun doD call ⟨13, tq, [(i0 : Int)], num⟩ regs s.take) w' := by
  have hI : insRun doD call ⟨13, tq, [(i0 : Int)], num⟩ regs s.take = insDo doD call ⟨13, tq, [(i0 : Int)], num⟩ (atI regs (i0 : Int)) (0) regs s.take := insRun_of rfl rfl
  rw [hI]
  clear hI
  rw [insDo_say rfl]
  have hsl : s.take.said.length ≤ 60000 := by have := hs.take.small; omega
  have hmf : ∀ (fn : Fn) (first cap : Array Value) (w : World), (Instr.makeFunc fn first cap).run Try.prog w = .ok (.func fn first cap) w := fun _ _ _ _ => rfl
  have hba := (two_blocks w (.cells #[.int .i64 13, .int .i64 tq, .slice (some ⟨ab, ao, none⟩) 1 ac, .int .i64 num] 83) (.cells #[.slice (some ⟨gb, 0, none⟩) n n] 26)).2.2.2
  have hrlt := hr.lt
  have hbs := h.base.size
  generalize hW : ((w.alloc (.cells #[.int .i64 13, .int .i64 tq, .slice (some ⟨ab, ao, none⟩) 1 ac, .int .i64 num] 83)).alloc (.cells #[.slice (some ⟨gb, 0, none⟩) n n] 26)) = W2 at hba
  have HT := Lib.hid (tickI_any (h.later hba) hN hf)
  rw [htk] at HT
  have HW := Lib.hid hW
  have HTF := Lib.hid htk
  have HD := Lib.hid (fun w3 (h3 : MSt w0 ua nu uc rb N D sv tv w3 s.take) (hT : Step D W2 D w3) => show DSt w0 ua nu uc rb N gb n w.heap.size [.int .i64 13, .int .i64 tq, .slice (some ⟨ab, ao, none⟩) 1 ac, .int .i64 num] D D sv tv w regs s.take w3 from DSt.start h hr _ hW h3 hT)
  have hen : ∀ v W, (callFunc 69 (#[v] ++ #[.pointer (some ⟨w.heap.size + 1, 0, none⟩), .pointer (some ⟨w.heap.size, 0, none⟩)])).run Try.prog W = .ok (.enter 69 (#[v] ++ #[.pointer (some ⟨w.heap.size + 1, 0, none⟩), .pointer (some ⟨w.heap.size, 0, none⟩)])) W := fun v W => by kernel_rfl
  clear h hr hf hba hW htk hs
  obtain ⟨xb, hxb⟩ : ∃ b, b = w.heap.size := ⟨_, rfl⟩
  rw [← hxb] at HD hen
  have HXB := Lib.hid hxb
  clear hxb
  go_enter Try.func50, Try.ntmps50
  go_upto_region 1 with fail
  rw [HW.out, ← HXB.out]
  go_wp2_with fail
  refine HT.out.mono ?_
  rintro e w3 ⟨he, h3, hT3⟩
  obtain rfl : e = .returned (.tuple #[]) := he
  have HDS := Lib.hid (HD.out w3 h3 hT3)
  have x0 := HDS.out.xc 0
  have x1 := HDS.out.xc 1
  have x2 := HDS.out.xc 2
  have x3 := HDS.out.xc 3
  simp only [List.getElem?_cons_zero, List.getElem?_cons_succ] at x0 x1 x2 x3
  have g0 := HDS.out.gc
  clear HD HT h3 hT3
  have q0 := cell_later HDS.out.st.base c0
  have r0 := HDS.out.rg.at hi0
  have HA0 := Lib.hid (fun q => show Calls Try.prog 69 #[.int .i64 0, .pointer (some ⟨xb + 1, 0, none⟩), .pointer (some ⟨xb, 0, none⟩)] (w3.drewN q) fun e u => e = .returned (.int .i64 (atI regs (i0 : Int))) ∧ ∃ p, u = (w3.drewN q).drewN p from argI_any (k := 0) (L := 1) (ac := ac) (w3.drewN q) (cell_later (below_drewN (Below.refl _ _) q) g0) (cell_later (below_drewN (Below.refl _ _) q) x2) (by omega) (by omega) (cell_later (below_drewN (Below.refl _ _) q) q0) hi0 hnl (cell_later (below_drewN (Below.refl _ _) q) r0))
  have HRA := Lib.hid (fun q o => show RowAt ((w3.drewN q).alloc (.cells #[.int .i64 o] 3)) (some ⟨w3.heap.size, 0, none⟩) ([o].map (Value.int .i64)) from rowAt_one (w3.drewN q) (.int .i64 o) 3)
  have k3 := HDS.out.st.cell 3
  simp only [mList, List.getElem?_cons_zero, List.getElem?_cons_succ] at k3
  have hklt := World.block_lt_of_cell? w3 _ k3
  have k3a := fun q o => cell_later ((Below.refl (w3.drewN q).heap.size (w3.drewN q)).alloc (Nat.le_refl _) o) (show (w3.drewN q).cell? ⟨rb, 3, none⟩ = some sv from k3)
  obtain ⟨a, hae⟩ : ∃ a, a = atI regs (i0 : Int) := ⟨_, rfl⟩
  rw [← hae] at r0 HA0
  have HAE := Lib.hid hae
  clear hae
  go_upto_region 15 with fail
  go_region_law (first | (go_simp; go_at_call 69; refine (HA0.out 1).mono ?_; rintro e w4 ⟨rfl, q, rfl⟩) | (refine step_app_ints rfl (.tmp 69) (.tmp 72) rfl w0.heap.size sv s.take.said.length _ rfl (ownsRow_below HDS.out.st.said (by repeat (first | exact Below.refl _ _ | apply later_drew | apply later_drewN | apply later_alloc))) _ 1 1 [a] rfl rfl (by first | exact HRA.out _ _ | exact RowAt.later (HRA.out _ _) ((Below.refl _ _).drew)) (by rintro ⟨⟩) (by omega) (by have := HDS.out.st.base.size; simp; omega) ?_; intro a9 c9 w9 hown9 hg9 hlies9; (have HP9 := Lib.hid ((HDS.out.st.later (by repeat (first | exact Below.refl _ _ | apply later_drew | apply later_drewN | apply later_alloc))).say (w := w3) (by repeat (first | exact Below.refl _ _ | apply later_drew | apply later_drewN | apply later_alloc)) HDS.out.st.base.size hown9 hg9 hlies9)); (have t9 := (cell_of_row _ _ 3 _ _ _ HP9.out.1).trans (show _ = some sv by simp [mList])); (have z9 := frozen_of_row _ _ 3 _ _ HP9.out.1); clear hown9 hg9 hlies9))
  all_goals
    obtain ⟨h51, h52, h53⟩ := HP9.out
    have HP := Lib.hid (show IPost w0 ua nu uc rb N gb n D w (regs, { s.take with said := s.take.said ++ [a] }) (w9.setCell ⟨rb, 3, none⟩ (.slice a9 (s.take.said.length + 1) c9)) from
      ⟨_, _, _, h52, fun _ => HDS.out.rg.stay h53.turned HDS.out.rg.out (h53.out HDS.out.rg.lt.2 HDS.out.rg.out), (HDS.out.step.trans h53).plus⟩)
    clear h51 h52 h53 t9 z9
    go_wp2
    go_end0
    exact ⟨by rw [HTF.out]; rfl, by rw [← HAE.out]; exact HP.out⟩

/-- What is asked of a run of the codes ahead of kmax. -/
def MCodeC (w0 : World) (us : List CodeD) (ua : Option Addr) (uc rb N d kmax : Nat) : Prop :=
  ∀ (k : Nat) (c : CodeD) (inp : List Int) (ia : Option Addr) (ic : Nat) (D : Nat → Prop) (sv tv : Value) (w : World) (s : RunS) (main : Bool), k < kmax → us[k]? = some c → (inp.length : Int) = c.params → IntsRd w ia inp.length inp → Byts inp →
    MSt w0 ua us.length uc rb N D sv tv w s → s.fin = none → Good s → main = (k + 1 == us.length) → (main = true → s.trace.length + s.left ≤ 60000) →
    Calls Try.prog 32 #[.pointer (some ⟨rb, 0, none⟩), .int .i64 (k : Int), .slice ia inp.length ic, .bool main] w fun e w' => e = outE (codeRun doD predsC us d k inp s).2.fin (.int .i64 (codeRun doD predsC us d k inp s).1) ∧
      ∃ D' sv' tv', MSt w0 ua us.length uc rb N D' sv' tv' w' (codeRun doD predsC us d k inp s).2 ∧ Step D w D' w'
end
section
variable {w0 w : World} {us : List CodeD} {ua : Option Addr} {uc rb N gb n d kk : Nat} {D : Nat → Prop} {sv tv : Value} {s : RunS} {regs : List Int}
set_option maxRecDepth 100000 in
set_option maxHeartbeats 4000000 in
theorem insI_call {tq : Int} {ac kn : Nat} {aa : Option Addr} {args : List Int} {c' : CodeD} (hV : UnitV us) (hC : MCodeC w0 us ua uc rb N d kk) (hkk : kk < us.length) (hkn : kn < kk) (hc' : us[kn]? = some c') (hpar : (args.length : Int) = c'.params) (htq : 0 ≤ tq ∧ tq < n)
    (hargs : ∀ r ∈ args, 0 ≤ r ∧ r < (n : Int)) (hA : IntsRd w0 aa args.length args) (hnl : n ≤ 300) (hN : N ≤ 60000) (h : MSt w0 ua us.length uc rb N D sv tv w s) (hr : RgSt w0.heap.size gb n D w regs) (hs : Good s) (hf : s.fin = none) (htk : s.take.fin = none) :
    Calls Try.prog 50 #[.pointer (some ⟨rb, 0, none⟩), .agg #[.int .i64 14, .int .i64 tq, .slice aa args.length ac, .int .i64 (kn : Int)], .slice (some ⟨gb, 0, none⟩) n n] w fun e w' => e = outE (insRun doD (codeRun doD predsC us d) ⟨14, tq, args, (kn : Int)⟩ regs s.take).2.fin (.tuple #[]) ∧ IPost w0 ua us.length uc rb N gb n D w (insRun doD (codeRun doD predsC us d) ⟨14, tq, args, (kn : Int)⟩ regs s.take) w' := by
  have hI : insRun doD (codeRun doD predsC us d) ⟨14, tq, args, (kn : Int)⟩ regs s.take = (setI regs tq (codeRun doD predsC us d kn (args.map (atI regs)) s.take).1, (codeRun doD predsC us d kn (args.map (atI regs)) s.take).2) := by
    unfold insRun; rw [insDo_call rfl]; rfl
  rw [hI]
  clear hI
  obtain ⟨R, hR⟩ : ∃ R, R = codeRun doD predsC us d kn (args.map (atI regs)) s.take := ⟨_, rfl⟩
  rw [← hR]
  have hp3 := (hV.code kn c' hc').params
  have hal : args.length ≤ 3 := by omega
  obtain ⟨jt, rfl⟩ : ∃ j : Nat, tq = (j : Int) := ⟨tq.toNat, by omega⟩
  have HBY := Lib.hid hr.byts
  have HGS := Lib.hid hs.take
  have HG := Lib.hid (good_code (preds := predsC) doD_ok us hV.numOk d kn (args.map (atI regs)) s.take (fun v hv => by
    obtain ⟨r, -, rfl⟩ := List.mem_map.1 hv
    exact hr.byts.at _) hs.take)
  rw [← hR] at HG
  have jl : (jt : Int) < (n : Int) := htq.2
  have HX := Lib.hid (And.intro hC (And.intro hc' (And.intro hpar (And.intro hkk hkn))))
  have HI := Lib.hid hargs
  have HA := Lib.hid hA
  have HR := Lib.hid hR
  clear hC hc' hpar hA hargs hp3 htq hV hkk hkn hR hs
  have hmf : ∀ (fn : Fn) (first cap : Array Value) (w : World), (Instr.makeFunc fn first cap).run Try.prog w = .ok (.func fn first cap) w := fun _ _ _ _ => rfl
  have hba := (two_blocks w (.cells #[.int .i64 14, .int .i64 (jt : Int), .slice aa args.length ac, .int .i64 (kn : Int)] 83) (.cells #[.slice (some ⟨gb, 0, none⟩) n n] 26)).2.2.2
  have hrlt := hr.lt
  have hbs := h.base.size
  generalize hW : ((w.alloc (.cells #[.int .i64 14, .int .i64 (jt : Int), .slice aa args.length ac, .int .i64 (kn : Int)] 83)).alloc (.cells #[.slice (some ⟨gb, 0, none⟩) n n] 26)) = W2 at hba
  have HT := Lib.hid (tickI_any (h.later hba) hN hf)
  rw [htk] at HT
  have HW := Lib.hid hW
  have HTF := Lib.hid htk
  have HD := Lib.hid (fun w3 (h3 : MSt w0 ua us.length uc rb N D sv tv w3 s.take) (hT : Step D W2 D w3) => show DSt w0 ua us.length uc rb N gb n w.heap.size [.int .i64 14, .int .i64 (jt : Int), .slice aa args.length ac, .int .i64 (kn : Int)] D D sv tv w regs s.take w3 from DSt.start h hr _ hW h3 hT)
  have hen : ∀ v W, (callFunc 69 (#[v] ++ #[.pointer (some ⟨w.heap.size + 1, 0, none⟩), .pointer (some ⟨w.heap.size, 0, none⟩)])).run Try.prog W = .ok (.enter 69 (#[v] ++ #[.pointer (some ⟨w.heap.size + 1, 0, none⟩), .pointer (some ⟨w.heap.size, 0, none⟩)])) W := fun v W => by kernel_rfl
  clear h hr hf hba hW htk 
  obtain ⟨xb, hxb⟩ : ∃ b, b = w.heap.size := ⟨_, rfl⟩
  rw [← hxb] at HD hen
  have HXB := Lib.hid hxb
  clear hxb
  go_enter Try.func50, Try.ntmps50
  go_upto_region 1 with fail
  rw [HW.out, ← HXB.out]
  go_wp2_with fail
  refine HT.out.mono ?_
  rintro e w3 ⟨he, h3, hT3⟩
  obtain rfl : e = .returned (.tuple #[]) := he
  have HDS := Lib.hid (HD.out w3 h3 hT3)
  have x0 := HDS.out.xc 0
  have x1 := HDS.out.xc 1
  have x2 := HDS.out.xc 2
  have x3 := HDS.out.xc 3
  simp only [List.getElem?_cons_zero, List.getElem?_cons_succ] at x0 x1 x2 x3
  have g0 := HDS.out.gc
  clear HD HT h3 hT3
  go_wp2
  have HG0 := Lib.hid (Gath.nil w3)
  go_loopg [7, 81] args.length (fun F o i wr => ∃ j : Nat, j + F = args.length ∧ i = .int .i64 j ∧ ∃ oa on oc, o = .slice oa on oc ∧ Hid (Gath w3 ((args.take j).map (atI regs)) oa on oc wr))
  case atStart => exact ⟨0, by omega, rfl, _, _, _, rfl, HG0⟩
  case round =>
    obtain ⟨j, hj, rfl, oa, on, oc, rfl, HGa⟩ := hrel
    clear HG0
    have hon := HGa.out.len
    rw [List.length_map, List.length_take, Nat.min_eq_left (by omega)] at hon
    have HON := Lib.hid hon
    have hon3 : on ≤ 3 := by omega
    clear hon
    have HDW := Lib.hid (HDS.out.later HGa.out.below)
    by_cases hlt : j < args.length
    · obtain ⟨qb, qo, x, hqa, hx, hcx⟩ := (HA.out.later HDW.out.st.base).place hlt
      cases hqa
      have hxr := HI.out x (List.mem_of_getElem? hx)
      obtain ⟨ix, rfl⟩ : ∃ i : Nat, x = (i : Int) := ⟨x.toNat, by omega⟩
      have y2 := HDW.out.xc 2
      simp only [List.getElem?_cons_zero, List.getElem?_cons_succ] at y2
      have HAJ := Lib.hid (argI_any (k := j) (ac := ac) (r := ix) wr HDW.out.gc y2 hlt (by omega) hcx (by omega) hnl (HDW.out.rg.at (j := ix) (by omega)))
      have HT := Lib.hid (show (args.take (j + 1)).map (atI regs) = (args.take j).map (atI regs) ++ [atI regs (ix : Int)] by rw [take_succ_of hx, List.map_append]; rfl)
      have hji : (j : Int) < (args.length : Int) := by omega
      clear hx hxr hcx y2
      generalize atI regs (ix : Int) = v at HT HAJ
      go_wp2_with fail
      refine HAJ.out.mono ?_
      rintro e w4 ⟨rfl, q, rfl⟩
      have HGq := Lib.hid (HGa.out.later (below_drewN (Below.refl wr.heap.size wr) q))
      go_wp2_with (at_builtin; refine app_ints rfl (.tmp 84) (.tmp 88) rfl w3.heap.size _ on _ rfl (HGq.out.row.alloc _) _ 1 _ [v] rfl rfl (rowAt_one _ _ _) (by rintro ⟨⟩) (by omega) (by have := HGa.out.below.size; simp; omega) ?_; intro a5 c5 w5 hown5 hg5 hlies5)
      have HN2 := Lib.hid (HGq.out.push hown5 hg5)
      clear hown5 hg5 hlies5
      go_roundg (args.length - (j + 1))
      case measure => omega
      case rel => exact ⟨j + 1, by omega, by go_num, a5, _, c5, rfl, Lib.hid (by rw [HT.out]; exact HN2.out)⟩
    · obtain rfl : j = args.length := by omega
      have hgr := HGa.out.row
      rw [List.take_length] at hgr
      have hone : (args.map (atI regs)).length = on := by rw [List.length_map]; exact HON.out.symm
      have hbi : Byts (args.map (atI regs)) := fun v hv => by
        obtain ⟨r, -, rfl⟩ := List.mem_map.1 hv
        exact HBY.out.at _
      have hpl : ((args.map (atI regs)).length : Int) = c'.params := by rw [List.length_map]; exact HX.out.2.2.1
      have HCALL := Lib.hid (fun q => show Calls Try.prog 32 #[.pointer (some ⟨rb, 0, none⟩), .int .i64 (kn : Int), .slice oa on oc, .bool false] (wr.drewN q) fun e u => e = outE R.2.fin (.int .i64 R.1) ∧ ∃ D2 sv2 tv2, Hid (DSt w0 ua us.length uc rb N gb n xb [.int .i64 14, .int .i64 (jt : Int), .slice aa args.length ac, .int .i64 (kn : Int)] D D2 sv2 tv2 w regs R.2 u) from by
        have hD := HDW.out.drewN q
        have hbq := below_drewN (Below.refl wr.heap.size wr) q
        have h1 := HX.out.1 kn c' (args.map (atI regs)) oa oc D sv tv (wr.drewN q) s.take false HX.out.2.2.2.2 HX.out.2.1 hpl ⟨rfl, rowAt_of_own (ownsRow_below hgr hbq)⟩ hbi hD.st HTF.out HGS.out (by have := HX.out.2.2.2; symm; simp; omega) (fun e => by cases e)
        rw [← HR.out, hone] at h1
        refine h1.mono ?_
        rintro e u ⟨he, D2, sv2, tv2, hS2, hT2⟩
        exact ⟨he, D2, sv2, tv2, Lib.hid ⟨hS2, hD.rg.stay hT2.turned hD.rg.out (hT2.out hD.rg.lt.2 hD.rg.out), hT2.block hD.x hD.nd.1, hT2.block hD.g hD.nd.2.1, hD.step.trans hT2, hT2.out (Array.getElem?_eq_some_iff.1 hD.x).1 hD.nd.1, hT2.out (Array.getElem?_eq_some_iff.1 hD.g).1 hD.nd.2.1, hD.nd.2.2⟩⟩)
      have g0 := HDW.out.gc
      have x1 := HDW.out.xc 1
      have x3 := HDW.out.xc 3
      simp only [List.getElem?_cons_zero, List.getElem?_cons_succ] at x1 x3
      clear hgr hone hbi hpl x0 x2
      cases hfR : R.2.fin with
      | none =>
        rw [hfR] at HCALL
        have HFR := Lib.hid hfR
        clear hfR
        have HPUT := Lib.hid (fun D2 sv2 tv2 u (hq : Hid (DSt w0 ua us.length uc rb N gb n xb [.int .i64 14, .int .i64 (jt : Int), .slice aa args.length ac, .int .i64 (kn : Int)] D D2 sv2 tv2 w regs R.2 u)) => hq.out.put jt HG.out.1)
        go_upto_region 23 with fail
        go_region_held3 (fun W => (W.cell? ⟨xb + 1, 0, none⟩ = some (.slice (some ⟨gb, 0, none⟩) n n) ∧ W.cell? ⟨xb, 1, none⟩ = some (.int .i64 (jt : Int))) ∧ W.cell? ⟨xb, 3, none⟩ = some (.int .i64 (kn : Int))) (first | exact ⟨⟨g0, x1⟩, x3⟩ | exact ⟨⟨hq.out.gc, hq.out.xc 1⟩, hq.out.xc 3⟩ | exact KP.out) (first | (go_at_call 32; refine (HCALL.out 1).mono ?_; rintro e w4 ⟨he, D2, sv2, tv2, hq⟩; obtain rfl : e = .returned (.int .i64 R.1) := he; (have rt := hq.out.rg.at (j := jt) (by omega)); (have rf := hq.out.rg.free jt); (have KP := Lib.hid (show ((w4.setCell ⟨gb, jt, none⟩ (.int .i64 R.1)).cell? ⟨xb + 1, 0, none⟩ = some (.slice (some ⟨gb, 0, none⟩) n n) ∧ (w4.setCell ⟨gb, jt, none⟩ (.int .i64 R.1)).cell? ⟨xb, 1, none⟩ = some (.int .i64 (jt : Int))) ∧ (w4.setCell ⟨gb, jt, none⟩ (.int .i64 R.1)).cell? ⟨xb, 3, none⟩ = some (.int .i64 (kn : Int)) from by
          have h1 := HPUT.out _ _ _ _ hq
          have ht := turned_store w4 gb jt (.int .i64 R.1)
          exact ⟨⟨h1.2.1, h1.2.2.2⟩, (cell_of_row _ _ 3 _ _ _ ((ht.block xb (Array.getElem?_eq_some_iff.1 hq.out.x).1 (by have := hq.out.nd; omega)).trans hq.out.x)).trans (by simp)⟩))))
        all_goals
          have HP := Lib.hid (HPUT.out _ _ _ _ hq).1
          go_wp2
          go_end0
          exact ⟨by rw [HFR.out]; rfl, HP.out⟩
      | some en =>
        rw [hfR] at HCALL
        have HFR := Lib.hid hfR
        clear hfR
        go_upto_region 23 with fail
        refine wp_region_held_drew (S := (fun W => (W.cell? ⟨xb + 1, 0, none⟩ = some (.slice (some ⟨gb, 0, none⟩) n n) ∧ W.cell? ⟨xb, 1, none⟩ = some (.int .i64 (jt : Int))) ∧ W.cell? ⟨xb, 3, none⟩ = some (.int .i64 (kn : Int)))) (by kernel_rfl) ⟨⟨g0, x1⟩, x3⟩ (fun hHeld => ?_)
        refine wpAnyH_take (i := 0) (oi := ⟨some 91, _, _, _, _, _⟩) (v := ?_) rfl (by kernel_rfl) (by kernel_rfl) (by kernel_rfl) (fun _ _ _ h => h) (Or.inl ⟨by rfl, ?_⟩) (by assumption) ?_
        rotate_left
        · (intro w hSw; (try dsimp only at hSw); go_simp; all_goals (try with_reducible rfl))
        (try simp only [Act.put, List.setIfInBounds_toArray, List.set_cons_zero, List.set_cons_succ])
        refine wpAnyH_take (i := 1) (oi := ⟨some 92, _, _, _, _, _⟩) (v := ?_) rfl (by kernel_rfl) (by kernel_rfl) (by kernel_rfl) (fun _ _ _ h => h) (Or.inl ⟨by rfl, ?_⟩) (by assumption) ?_
        rotate_left
        · (intro w hSw; (try dsimp only at hSw); go_simp; all_goals (try with_reducible rfl))
        (try simp only [Act.put, List.setIfInBounds_toArray, List.set_cons_zero, List.set_cons_succ])
        refine wpAnyH_take (i := 2) (oi := ⟨some 93, _, _, _, _, _⟩) (v := ?_) rfl (by kernel_rfl) (by kernel_rfl) (by kernel_rfl) (fun _ _ _ h => h) (Or.inl ⟨by rfl, ?_⟩) (by assumption) ?_
        rotate_left
        · (intro w hSw; (try dsimp only at hSw); go_simp; all_goals (try with_reducible rfl))
        (try simp only [Act.put, List.setIfInBounds_toArray, List.set_cons_zero, List.set_cons_succ])
        refine wpAnyH_take (i := 3) (oi := ⟨some 94, _, _, _, _, _⟩) (v := ?_) rfl (by kernel_rfl) (by kernel_rfl) (by kernel_rfl) (fun _ _ _ h => h) (Or.inl ⟨by rfl, ?_⟩) (by assumption) ?_
        rotate_left
        · (intro w hSw; (try dsimp only at hSw); go_simp; all_goals (try with_reducible rfl))
        (try simp only [Act.put, List.setIfInBounds_toArray, List.set_cons_zero, List.set_cons_succ])
        refine wpAnyH_take (i := 4) (oi := ⟨some 95, _, _, _, _, _⟩) (v := ?_) rfl (by kernel_rfl) (by kernel_rfl) (by kernel_rfl) (fun _ _ _ h => h) (Or.inl ⟨by rfl, ?_⟩) (by assumption) ?_
        rotate_left
        · (intro w hSw; (try dsimp only at hSw); go_simp; all_goals (try with_reducible rfl))
        (try simp only [Act.put, List.setIfInBounds_toArray, List.set_cons_zero, List.set_cons_succ])
        refine wpAnyH_take (i := 5) (oi := ⟨some 96, _, _, _, _, _⟩) (v := ?_) rfl (by kernel_rfl) (by kernel_rfl) (by kernel_rfl) (fun _ _ _ h => h) (Or.inl ⟨by rfl, ?_⟩) (by assumption) ?_
        rotate_left
        · (intro w hSw; (try dsimp only at hSw); go_simp; all_goals (try with_reducible rfl))
        (try simp only [Act.put, List.setIfInBounds_toArray, List.set_cons_zero, List.set_cons_succ])
        refine wpAnyH_take (i := 6) (oi := ⟨some 97, _, _, _, _, _⟩) (v := ?_) rfl (by kernel_rfl) (by kernel_rfl) (by kernel_rfl) (fun _ _ _ h => h) (Or.inl ⟨by rfl, ?_⟩) (by assumption) ?_
        rotate_left
        · (intro w hSw; (try dsimp only at hSw); go_simp; all_goals (try with_reducible rfl))
        (try simp only [Act.put, List.setIfInBounds_toArray, List.set_cons_zero, List.set_cons_succ])
        refine wpAnyH_ready (rs := [7]) (by kernel_rfl) (by simp) ?_
        refine AllReadyH.cons (o := ⟨some 98, _, _, _, _, _⟩) rfl (fun K hK => ?_) AllReadyH.nil
        go_simp
        go_at_call 32
        refine (HCALL.out 1).mono ?_
        rintro e w4 ⟨he, D2, sv2, tv2, hq⟩
        obtain rfl : e = endPanic en := he
        exact ⟨rfl, by rw [HFR.out]; rfl, D2, sv2, tv2, hq.out.st, (fun e => absurd (HFR.out.symm.trans e) (by simp)), hq.out.step.plus⟩
/-- An instruction of a valid code. -/
theorem insI_any (hV : UnitV us) (hC : MCodeC w0 us ua uc rb N d kk) (hkk : kk < us.length) {c : CodeD} {x : InsD} (hx : InsV us kk c.regs x) (cs : List Value) (hR : InsR w0 cs x) (hn : (n : Int) = c.regs) (hnl : n ≤ 300) (hN : N ≤ 60000)
    (h : MSt w0 ua us.length uc rb N D sv tv w s) (hr : RgSt w0.heap.size gb n D w regs) (hs : Good s) (hf : s.fin = none) (htk : s.take.fin = none) :
    Calls Try.prog 50 #[.pointer (some ⟨rb, 0, none⟩), .agg cs.toArray, .slice (some ⟨gb, 0, none⟩) n n] w fun e w' => e = outE (insRun doD (codeRun doD predsC us d) x regs s.take).2.fin (.tuple #[]) ∧ IPost w0 ua us.length uc rb N gb n D w (insRun doD (codeRun doD predsC us d) x regs s.take) w' := by
  obtain ⟨op, tq, args, num⟩ := x
  obtain ⟨aa, ac, rfl, -, hA⟩ := hR
  have hargs : ∀ r ∈ args, 0 ≤ r ∧ r < (n : Int) := fun r hr => by rw [hn]; exact hx.args r hr
  have hop : 1 ≤ op ∧ op ≤ 14 := hx.op
  have hdest : op ≠ 12 → op ≠ 13 → 0 ≤ tq ∧ tq < (n : Int) := fun a b => by rw [hn]; exact hx.dest a b
  have har : op ≠ 1 → op ≠ 14 → (args.length : Int) = argsN op := hx.arity
  by_cases h1 : op = 1
  · have h2 := hx.num h1
    obtain rfl : args = [] := List.length_eq_zero_iff.1 h2.1
    subst h1
    exact insI_num _ hnl hN h hr hs hf htk h2.2 (hdest (by omega) (by omega))
  by_cases h14 : op = 14
  · subst h14
    have h2 := hx.call rfl
    change 0 ≤ num ∧ num < kk ∧ (args.length : Int) = _ at h2
    obtain ⟨kn, rfl⟩ : ∃ j : Nat, num = (j : Int) := ⟨num.toNat, by omega⟩
    have hk2 : kn < us.length := by omega
    have hc' : us[kn]? = some (us[kn]'hk2) := List.getElem?_eq_getElem hk2
    refine insI_call hV hC hkk (by omega) hc' ?_ (hdest (by omega) (by omega)) hargs hA hnl hN h hr hs hf htk
    rw [h2.2.2, List.getD_eq_getElem?_getD, List.getElem?_map, Int.toNat_natCast, hc']
    rfl
  have har2 := har h1 h14
  by_cases hone : op = 2 ∨ op = 10 ∨ op = 11 ∨ op = 13
  · have hl : args.length = 1 := by
      unfold argsN at har2
      rw [if_neg h1, if_pos hone] at har2
      omega
    obtain ⟨i0, ab, ao, rfl, hi0, rfl, hc⟩ := one_arg hA hargs hl
    by_cases h13 : op = 13
    · subst h13
      exact insI_say _ hi0 hc hnl hN h hr hs hf htk
    by_cases h11 : op = 11
    · subst h11
      by_cases hfar : 16 ≤ atI regs (i0 : Int)
      · exact insI_farat _ hi0 hc hnl hN h hr hs hf htk hfar
      · exact insI_at _ hi0 hc hnl hN h hr hs hf htk (hdest (by omega) (by omega)) (by omega)
    by_cases h2 : op = 2
    · subst h2
      exact insI_copy _ hi0 hc hnl hN h hr hs hf htk (hdest (by omega) (by omega))
    · obtain rfl : op = 10 := by omega
      exact insI_not _ hi0 hc hnl hN h hr hs hf htk (hdest (by omega) (by omega))
  · have hl : args.length = 2 := by
      unfold argsN at har2
      rw [if_neg h1, if_neg hone] at har2
      omega
    obtain ⟨i0, i1, ab, ao, rfl, hi0, hi1, rfl, hc, hc1⟩ := two_arg hA hargs hl
    by_cases h12 : op = 12
    · subst h12
      by_cases hfar : 16 ≤ atI regs (i0 : Int)
      · exact insI_farput _ hi0 hc hi1 hc1 hnl hN h hr hs hf htk hfar
      · exact insI_put _ hi0 hc hi1 hc1 hnl hN h hr hs hf htk (by omega)
    · cases hv : arithD op (atI regs (i0 : Int)) (atI regs (i1 : Int)) with
      | none => exact insI_twono _ hi0 hc hi1 hc1 hnl hN h hr hs hf htk (show 3 ≤ op ∧ op ≤ 9 by omega) (hdest (by omega) (by omega)) hv
      | some v => exact insI_twook _ hi0 hc hi1 hc1 hnl hN h hr hs hf htk (show 3 ≤ op ∧ op ≤ 9 by omega) (hdest (by omega) (by omega)) hv

set_option maxRecDepth 100000 in
set_option maxHeartbeats 4000000 in
/-- No step is left. -/
theorem insI_over {X : List Value} {en : Int} (hN : N ≤ 60000) (h : MSt w0 ua us.length uc rb N D sv tv w s) (hr : RgSt w0.heap.size gb n D w regs) (hf : s.fin = none) (htk : s.take.fin = some en) :
    Calls Try.prog 50 #[.pointer (some ⟨rb, 0, none⟩), .agg X.toArray, .slice (some ⟨gb, 0, none⟩) n n] w fun e w' => e = endPanic en ∧ MSt w0 ua us.length uc rb N D sv tv w' s.take ∧ Step D w D w' := by
  have hba := (two_blocks w (.cells X.toArray 83) (.cells #[.slice (some ⟨gb, 0, none⟩) n n] 26)).2.2.2
  have HT := Lib.hid (tickI_any (h.later hba) hN hf)
  rw [htk] at HT
  have HB := Lib.hid (Step.new (D := D) hba)
  clear h hr hf htk hba
  go_enter Try.func50, Try.ntmps50
  go_wp2_with fail
  refine HT.out.mono ?_
  rintro e w3 ⟨he, h3, hT3⟩
  obtain rfl : e = endPanic en := he
  exact ⟨rfl, rfl, h3, HB.out.trans hT3⟩
end

end Go.Proofs.Ytajnldkempeheaa
