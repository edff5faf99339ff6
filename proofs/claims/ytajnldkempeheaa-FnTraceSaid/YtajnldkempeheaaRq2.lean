/-
  The reference's run of a unit on the heap: an instruction. (printed by mkrq2.py)
-/
import Derived.Test.YtajnldkempeheaaRq1
import Derived.StillTailTactics

namespace Go.Proofs.Ytajnldkempeheaa
open Go.RowKit
set_option linter.unusedVariables false
set_option linter.unusedSimpArgs false

theorem atI_some {xs : List Int} {j : Nat} (h : j < xs.length) : xs[j]? = some (atI xs (j : Int)) := by
  unfold atI
  rw [List.getD_eq_getElem?_getD, Int.toNat_natCast, List.getElem?_eq_getElem h, Option.getD_some]
/-- The registers of a code: in a block of their own. -/
structure RgSt (lo gb n : Nat) (D : Nat → Prop) (w : World) (regs : List Int) : Prop where
  own : w.ownsRow lo 3 1 (.slice (some ⟨gb, 0, none⟩) n n) n (regs.map (Value.int .i64))
  out : ¬ D gb
  byts : Byts regs
section
variable {lo gb n : Nat} {D D' : Nat → Prop} {w W : World} {regs : List Int}
theorem RgSt.length (h : RgSt lo gb n D w regs) : regs.length = n := by have := h.own.1; simpa using this
theorem RgSt.at (h : RgSt lo gb n D w regs) {j : Nat} (hj : j < n) : w.cell? ⟨gb, j, none⟩ = some (.int .i64 (atI regs (j : Int))) := by
  rw [h.own.cellAt j (by omega), List.getElem?_map, atI_some (by rw [h.length]; exact hj)]; rfl
theorem RgSt.free (h : RgSt lo gb n D w regs) (j : Nat) : w.frozen? ⟨gb, j, none⟩ = false := h.own.frozenAt j
theorem RgSt.put (h : RgSt lo gb n D w regs) (j : Nat) {v : Int} (hv : Byt v) : RgSt lo gb n D (w.setCell ⟨gb, j, none⟩ (.int .i64 v)) (setI regs (j : Int) v) :=
  ⟨by
    have h1 := (h.own.stored j (.int .i64 v)).1
    rw [← List.map_set] at h1
    exact h1, h.out, h.byts.set _ hv⟩
theorem RgSt.stay {S : Nat → Prop} (h : RgSt lo gb n D w regs) (ht : Turned S w W) (hS : ¬ S gb) (hD : ¬ D' gb) : RgSt lo gb n D' W regs :=
  ⟨own_turned h.own ht (fun k hk => by cases hk; exact hS), hD, h.byts⟩
theorem RgSt.lt (h : RgSt lo gb n D w regs) : lo ≤ gb ∧ gb < w.heap.size := h.own.lt gb rfl
theorem RgSt.later (h : RgSt lo gb n D w regs) (hb : Below w.heap.size w W) : RgSt lo gb n D W regs :=
  h.stay (S := fun _ => False) (turned_of_below hb (fun k h1 h2 => by omega)) (fun hk => hk.elim) h.out
end
section
variable {doF : Int → Int → Int → Int × Int} {call : Nat → List Int → RunS → Int × RunS}
theorem insRun_of {x : InsD} {regs : List Int} {s : RunS} {a b : Int} (ha : (if x.args.length > 0 then atI regs (atI x.args 0) else x.num) = a) (hb : (if x.args.length > 1 then atI regs (atI x.args 1) else 0) = b) : insRun doF call x regs s = insDo doF call x a b regs s := by
  unfold insRun; rw [ha, hb]
theorem insDo_pure {x : InsD} {regs : List Int} {s : RunS} {a b v : Int} (ho : 1 ≤ x.op ∧ x.op ≤ 10) (hd : doF x.op a b = (v, 0)) : insDo doF call x a b regs s = (setI regs x.to v, s) := by
  unfold insDo; rw [if_pos ho, hd]; simp
theorem insDo_ends {x : InsD} {regs : List Int} {s : RunS} {a b v e : Int} (ho : 1 ≤ x.op ∧ x.op ≤ 10) (hd : doF x.op a b = (v, e)) (he : e ≠ 0) : insDo doF call x a b regs s = (regs, s.stop e) := by
  unfold insDo; rw [if_pos ho, hd]; simp [he]
end
theorem doD_end {op a b : Int} (hop : 1 ≤ op ∧ op ≤ 10) (ha : Byt a) (hb : Byt b) : (doD op a b).2 = 0 ∨ (doD op a b).2 = 1 := by
  have e : doD op a b = (if op = 1 ∨ op = 2 then (a, 0) else if op = 10 then (truthI (a == 0), 0) else if inE 3 op 9 then arithP (arithD op a b) else (-1, -1)) := by
    rw [doD, byt_in ha, byt_in hb]; rfl
  rw [e]
  split
  · exact .inl rfl
  · split
    · exact .inl rfl
    · split
      · cases arithD op a b with
        | none => exact .inr rfl
        | some r => exact .inl rfl
      · rename_i h1 h2 h3
        exact absurd (by simp only [inE, Bool.and_eq_true, decide_eq_true_eq]; omega) h3
/-- What an instruction leaves. -/
def InsPost (w0 : World) (ua : Option Addr) (nu uc rb cb gb n : Nat) (D : Nat → Prop) (w : World) (r : List Int × RunS) (w' : World) : Prop :=
  ∃ D' sv' tv', SSt w0 ua nu uc rb cb D' sv' tv' w' r.2 ∧ RgSt w0.heap.size gb n D' w' r.1 ∧ Step (fun k => D k ∨ k = gb) w (fun k => D' k ∨ k = gb) w'
section
variable {w0 w : World} {ua : Option Addr} {nu uc rb cb gb n : Nat} {D : Nat → Prop} {sv tv : Value} {s : RunS} {regs : List Int}
theorem InsPost.same {w1 : World} {s' : RunS} (hS : SSt w0 ua nu uc rb cb D sv tv w1 s') (hR : RgSt w0.heap.size gb n D w1 regs) (h1 : Step D w D w1) : InsPost w0 ua nu uc rb cb gb n D w (regs, s') w1 :=
  ⟨D, sv, tv, hS, hR, ⟨h1.turned.mono (fun k hk => .inl hk), fun k hk h => h⟩⟩
theorem InsPost.put {w1 : World} (hS : SSt w0 ua nu uc rb cb D sv tv w1 s) (hR : RgSt w0.heap.size gb n D w1 regs) (h1 : Step D w D w1) (j : Nat) {v : Int} (hv : Byt v) : InsPost w0 ua nu uc rb cb gb n D w (setI regs (j : Int) v, s) (w1.setCell ⟨gb, j, none⟩ (.int .i64 v)) :=
  ⟨D, sv, tv, hS.stay (turned_store w1 gb j (.int .i64 v)) (fun k hk => by subst hk; exact ⟨hR.out, hR.lt.1⟩), hR.put j hv,
   ⟨(h1.turned.mono (fun k hk => .inl hk)).trans ((turned_store w1 gb j (.int .i64 v)).mono (fun k hk => .inr hk)), fun k hk h => h⟩⟩
set_option maxRecDepth 100000 in
set_option maxHeartbeats 4000000 in
theorem insS_num (call : Nat → List Int → RunS → Int × RunS) {op num tq : Int} {ac   : Nat} {aa : Option Addr} (hop : 1 ≤ op ∧ op ≤ 10) (hnum : Byt num) (htq : 0 ≤ tq ∧ tq < n) (hnl : n ≤ 300) (h : SSt w0 ua nu uc rb cb D sv tv w s) (hr : RgSt w0.heap.size gb n D w regs) (hs : Good s) :
    Calls Try.prog 54 #[.pointer (some ⟨rb, 0, none⟩), .agg #[.int .i64 op, .int .i64 tq, .slice aa 0 ac, .int .i64 num], .slice (some ⟨gb, 0, none⟩) n n] w fun e w' => e = .returned (.tuple #[]) ∧ InsPost w0 ua nu uc rb cb gb n D w (insRun doD call ⟨op, tq, [], num⟩ regs s) w' := by
  have hI : insRun doD call ⟨op, tq, [], num⟩ regs s = insDo doD call ⟨op, tq, [], num⟩ (num) (0) regs s := insRun_of rfl rfl
  rw [hI]
  clear hI
  obtain ⟨jt, rfl⟩ : ∃ j : Nat, tq = (j : Int) := ⟨tq.toNat, by omega⟩
  have hba : Below w.heap.size w (w.alloc (.cells #[.int .i64 op, .int .i64 (jt : Int), .slice aa 0 ac, .int .i64 num] 83)) := (Below.refl _ _).alloc (Nat.le_refl _) _
  have hS1 := h.later hba
  have hR1 := hr.later hba
  have HBA := Lib.hid (hnum)
  have HBB : Hid (Byt (0)) := Lib.hid (byt_zero)
  have rt := hR1.at (j := jt) (by omega)
  have rf := hR1.free jt
  have jl : (jt : Int) < (n : Int) := htq.2
  have HOP := Lib.hid hop
  have HPU := Lib.hid (fun W => l8Pure_any op W)
  rw [show inE 1 op 10 = true by simp [inE, hop.1, hop.2]] at HPU
  have HDO := Lib.hid (fun W => l8Do_any op num (0) HOP.out HBA.out HBB.out W)
  have HE := Lib.hid (doD_end HOP.out HBA.out HBB.out)
  have HV := Lib.hid (doD_byt HOP.out HBA.out HBB.out)
  obtain ⟨R, hR⟩ : ∃ R, R = doD op num (0) := ⟨_, rfl⟩
  have HR := Lib.hid hR
  rw [← hR] at HDO HE HV
  clear hR
  obtain ⟨v, en⟩ := R
  have HST := Lib.hid (And.intro hS1 (And.intro hR1 (Step.new (D := D) hba)))
  clear h hr hs hba hS1 hR1 hop htq hnl hnum
  rcases HE.out with he | he
  · obtain rfl : en = 0 := he
    have HP := Lib.hid (show InsPost w0 ua nu uc rb cb gb n D w (insDo doD call ⟨op, (jt : Int), [], num⟩ num (0) regs s) ((w.alloc (.cells #[.int .i64 op, .int .i64 (jt : Int), .slice aa 0 ac, .int .i64 num] 83)).setCell ⟨gb, jt, none⟩ (.int .i64 v)) from by
      rw [insDo_pure HOP.out HR.out.symm]
      exact InsPost.put HST.out.1 HST.out.2.1 HST.out.2.2 jt (HV.out rfl))
    clear HE HV HST
    go_enter Try.func54, Try.ntmps54
    go_wp2_with fail
    refine (HPU.out _).mono ?_
    rintro e w1 ⟨rfl, rfl⟩
    go_wp2_with fail
    refine (HDO.out _).mono ?_
    rintro e w1 ⟨rfl, rfl⟩
    go_wp2
    go_end0
    exact ⟨rfl, HP.out⟩
  · obtain rfl : en = 1 := he
    have HC := Lib.hid (stopS_any 1 HST.out.1)
    have HP := Lib.hid (fun W (hS : SSt w0 ua nu uc rb cb D sv tv W (s.stop 1)) (hT : Step D (w.alloc (.cells #[.int .i64 op, .int .i64 (jt : Int), .slice aa 0 ac, .int .i64 num] 83)) D W) => show InsPost w0 ua nu uc rb cb gb n D w (insDo doD call ⟨op, (jt : Int), [], num⟩ num (0) regs s) W from by
      rw [insDo_ends HOP.out HR.out.symm (by omega)]
      exact InsPost.same hS (HST.out.2.1.stay hT.turned HST.out.2.1.out HST.out.2.1.out) (HST.out.2.2.trans hT))
    clear HE HV HST
    go_enter Try.func54, Try.ntmps54
    go_wp2_with fail
    refine (HPU.out _).mono ?_
    rintro e w1 ⟨rfl, rfl⟩
    go_wp2_with fail
    refine (HDO.out _).mono ?_
    rintro e w1 ⟨rfl, rfl⟩
    go_wp2_with fail
    refine HC.out.mono ?_
    rintro e w2 ⟨rfl, hS2, hT2⟩
    have HF := Lib.hid (HP.out _ hS2 hT2)
    clear hS2 hT2
    go_wp2
    refine bodyPost_ret (results_none rfl _ _ _) rfl ?_
    exact ⟨rfl, HF.out⟩
set_option maxRecDepth 100000 in
set_option maxHeartbeats 4000000 in
theorem insS_one (call : Nat → List Int → RunS → Int × RunS) {op num tq : Int} {ac ab ao i0 : Nat} (hop : 1 ≤ op ∧ op ≤ 10) (htq : 0 ≤ tq ∧ tq < n) (hi0 : i0 < n) (c0 : w0.cell? ⟨ab, ao, none⟩ = some (.int .i64 (i0 : Int))) (hnl : n ≤ 300) (h : SSt w0 ua nu uc rb cb D sv tv w s) (hr : RgSt w0.heap.size gb n D w regs) (hs : Good s) :
    Calls Try.prog 54 #[.pointer (some ⟨rb, 0, none⟩), .agg #[.int .i64 op, .int .i64 tq, .slice (some ⟨ab, ao, none⟩) 1 ac, .int .i64 num], .slice (some ⟨gb, 0, none⟩) n n] w fun e w' => e = .returned (.tuple #[]) ∧ InsPost w0 ua nu uc rb cb gb n D w (insRun doD call ⟨op, tq, [(i0 : Int)], num⟩ regs s) w' := by
  have hI : insRun doD call ⟨op, tq, [(i0 : Int)], num⟩ regs s = insDo doD call ⟨op, tq, [(i0 : Int)], num⟩ (atI regs (i0 : Int)) (0) regs s := insRun_of rfl rfl
  rw [hI]
  clear hI
  obtain ⟨jt, rfl⟩ : ∃ j : Nat, tq = (j : Int) := ⟨tq.toNat, by omega⟩
  have hba : Below w.heap.size w (w.alloc (.cells #[.int .i64 op, .int .i64 (jt : Int), .slice (some ⟨ab, ao, none⟩) 1 ac, .int .i64 num] 83)) := (Below.refl _ _).alloc (Nat.le_refl _) _
  have hS1 := h.later hba
  have hR1 := hr.later hba
  have q0 : (w.alloc (.cells #[.int .i64 op, .int .i64 (jt : Int), .slice (some ⟨ab, ao, none⟩) 1 ac, .int .i64 num] 83)).cell? ⟨ab, ao, none⟩ = some (.int .i64 (i0 : Int)) := cell_later hba (cell_later h.base c0)
  have r0 := hR1.at hi0
  have i0l : (i0 : Int) < (n : Int) := by omega
  have HBA := Lib.hid (hr.byts.at (i0 : Int))
  have HBB : Hid (Byt (0)) := Lib.hid (byt_zero)
  have rt := hR1.at (j := jt) (by omega)
  have rf := hR1.free jt
  have jl : (jt : Int) < (n : Int) := htq.2
  have HOP := Lib.hid hop
  generalize atI regs (i0 : Int) = a at r0 HBA ⊢
  have HPU := Lib.hid (fun W => l8Pure_any op W)
  rw [show inE 1 op 10 = true by simp [inE, hop.1, hop.2]] at HPU
  have HDO := Lib.hid (fun W => l8Do_any op a (0) HOP.out HBA.out HBB.out W)
  have HE := Lib.hid (doD_end HOP.out HBA.out HBB.out)
  have HV := Lib.hid (doD_byt HOP.out HBA.out HBB.out)
  obtain ⟨R, hR⟩ : ∃ R, R = doD op a (0) := ⟨_, rfl⟩
  have HR := Lib.hid hR
  rw [← hR] at HDO HE HV
  clear hR
  obtain ⟨v, en⟩ := R
  have HST := Lib.hid (And.intro hS1 (And.intro hR1 (Step.new (D := D) hba)))
  clear h hr hs hba hS1 hR1 hop htq hnl
  rcases HE.out with he | he
  · obtain rfl : en = 0 := he
    have HP := Lib.hid (show InsPost w0 ua nu uc rb cb gb n D w (insDo doD call ⟨op, (jt : Int), [(i0 : Int)], num⟩ a (0) regs s) ((w.alloc (.cells #[.int .i64 op, .int .i64 (jt : Int), .slice (some ⟨ab, ao, none⟩) 1 ac, .int .i64 num] 83)).setCell ⟨gb, jt, none⟩ (.int .i64 v)) from by
      rw [insDo_pure HOP.out HR.out.symm]
      exact InsPost.put HST.out.1 HST.out.2.1 HST.out.2.2 jt (HV.out rfl))
    clear HE HV HST
    go_enter Try.func54, Try.ntmps54
    go_wp2_with fail
    refine (HPU.out _).mono ?_
    rintro e w1 ⟨rfl, rfl⟩
    go_wp2_with fail
    refine (HDO.out _).mono ?_
    rintro e w1 ⟨rfl, rfl⟩
    go_wp2
    go_end0
    exact ⟨rfl, HP.out⟩
  · obtain rfl : en = 1 := he
    have HC := Lib.hid (stopS_any 1 HST.out.1)
    have HP := Lib.hid (fun W (hS : SSt w0 ua nu uc rb cb D sv tv W (s.stop 1)) (hT : Step D (w.alloc (.cells #[.int .i64 op, .int .i64 (jt : Int), .slice (some ⟨ab, ao, none⟩) 1 ac, .int .i64 num] 83)) D W) => show InsPost w0 ua nu uc rb cb gb n D w (insDo doD call ⟨op, (jt : Int), [(i0 : Int)], num⟩ a (0) regs s) W from by
      rw [insDo_ends HOP.out HR.out.symm (by omega)]
      exact InsPost.same hS (HST.out.2.1.stay hT.turned HST.out.2.1.out HST.out.2.1.out) (HST.out.2.2.trans hT))
    clear HE HV HST
    go_enter Try.func54, Try.ntmps54
    go_wp2_with fail
    refine (HPU.out _).mono ?_
    rintro e w1 ⟨rfl, rfl⟩
    go_wp2_with fail
    refine (HDO.out _).mono ?_
    rintro e w1 ⟨rfl, rfl⟩
    go_wp2_with fail
    refine HC.out.mono ?_
    rintro e w2 ⟨rfl, hS2, hT2⟩
    have HF := Lib.hid (HP.out _ hS2 hT2)
    clear hS2 hT2
    go_wp2
    refine bodyPost_ret (results_none rfl _ _ _) rfl ?_
    exact ⟨rfl, HF.out⟩
set_option maxRecDepth 100000 in
set_option maxHeartbeats 4000000 in
theorem insS_two (call : Nat → List Int → RunS → Int × RunS) {op num tq : Int} {ac ab ao i0 i1 : Nat} (hop : 1 ≤ op ∧ op ≤ 10) (htq : 0 ≤ tq ∧ tq < n) (hi0 : i0 < n) (c0 : w0.cell? ⟨ab, ao, none⟩ = some (.int .i64 (i0 : Int))) (hi1 : i1 < n) (c1 : w0.cell? ⟨ab, ao + 1, none⟩ = some (.int .i64 (i1 : Int))) (hnl : n ≤ 300) (h : SSt w0 ua nu uc rb cb D sv tv w s) (hr : RgSt w0.heap.size gb n D w regs) (hs : Good s) :
    Calls Try.prog 54 #[.pointer (some ⟨rb, 0, none⟩), .agg #[.int .i64 op, .int .i64 tq, .slice (some ⟨ab, ao, none⟩) 2 ac, .int .i64 num], .slice (some ⟨gb, 0, none⟩) n n] w fun e w' => e = .returned (.tuple #[]) ∧ InsPost w0 ua nu uc rb cb gb n D w (insRun doD call ⟨op, tq, [(i0 : Int), (i1 : Int)], num⟩ regs s) w' := by
  have hI : insRun doD call ⟨op, tq, [(i0 : Int), (i1 : Int)], num⟩ regs s = insDo doD call ⟨op, tq, [(i0 : Int), (i1 : Int)], num⟩ (atI regs (i0 : Int)) (atI regs (i1 : Int)) regs s := insRun_of rfl rfl
  rw [hI]
  clear hI
  obtain ⟨jt, rfl⟩ : ∃ j : Nat, tq = (j : Int) := ⟨tq.toNat, by omega⟩
  have hba : Below w.heap.size w (w.alloc (.cells #[.int .i64 op, .int .i64 (jt : Int), .slice (some ⟨ab, ao, none⟩) 2 ac, .int .i64 num] 83)) := (Below.refl _ _).alloc (Nat.le_refl _) _
  have hS1 := h.later hba
  have hR1 := hr.later hba
  have q0 : (w.alloc (.cells #[.int .i64 op, .int .i64 (jt : Int), .slice (some ⟨ab, ao, none⟩) 2 ac, .int .i64 num] 83)).cell? ⟨ab, ao, none⟩ = some (.int .i64 (i0 : Int)) := cell_later hba (cell_later h.base c0)
  have r0 := hR1.at hi0
  have i0l : (i0 : Int) < (n : Int) := by omega
  have q1 : (w.alloc (.cells #[.int .i64 op, .int .i64 (jt : Int), .slice (some ⟨ab, ao, none⟩) 2 ac, .int .i64 num] 83)).cell? ⟨ab, ao + 1, none⟩ = some (.int .i64 (i1 : Int)) := cell_later hba (cell_later h.base c1)
  have r1 := hR1.at hi1
  have i1l : (i1 : Int) < (n : Int) := by omega
  have HBA := Lib.hid (hr.byts.at (i0 : Int))
  have HBB : Hid (Byt (atI regs (i1 : Int))) := Lib.hid (hr.byts.at (i1 : Int))
  have rt := hR1.at (j := jt) (by omega)
  have rf := hR1.free jt
  have jl : (jt : Int) < (n : Int) := htq.2
  have HOP := Lib.hid hop
  generalize atI regs (i0 : Int) = a at r0 HBA ⊢
  generalize atI regs (i1 : Int) = b at r1 HBB ⊢
  have HPU := Lib.hid (fun W => l8Pure_any op W)
  rw [show inE 1 op 10 = true by simp [inE, hop.1, hop.2]] at HPU
  have HDO := Lib.hid (fun W => l8Do_any op a (b) HOP.out HBA.out HBB.out W)
  have HE := Lib.hid (doD_end HOP.out HBA.out HBB.out)
  have HV := Lib.hid (doD_byt HOP.out HBA.out HBB.out)
  obtain ⟨R, hR⟩ : ∃ R, R = doD op a (b) := ⟨_, rfl⟩
  have HR := Lib.hid hR
  rw [← hR] at HDO HE HV
  clear hR
  obtain ⟨v, en⟩ := R
  have HST := Lib.hid (And.intro hS1 (And.intro hR1 (Step.new (D := D) hba)))
  clear h hr hs hba hS1 hR1 hop htq hnl
  rcases HE.out with he | he
  · obtain rfl : en = 0 := he
    have HP := Lib.hid (show InsPost w0 ua nu uc rb cb gb n D w (insDo doD call ⟨op, (jt : Int), [(i0 : Int), (i1 : Int)], num⟩ a (b) regs s) ((w.alloc (.cells #[.int .i64 op, .int .i64 (jt : Int), .slice (some ⟨ab, ao, none⟩) 2 ac, .int .i64 num] 83)).setCell ⟨gb, jt, none⟩ (.int .i64 v)) from by
      rw [insDo_pure HOP.out HR.out.symm]
      exact InsPost.put HST.out.1 HST.out.2.1 HST.out.2.2 jt (HV.out rfl))
    clear HE HV HST
    go_enter Try.func54, Try.ntmps54
    go_wp2_with fail
    refine (HPU.out _).mono ?_
    rintro e w1 ⟨rfl, rfl⟩
    go_wp2_with fail
    refine (HDO.out _).mono ?_
    rintro e w1 ⟨rfl, rfl⟩
    go_wp2
    go_end0
    exact ⟨rfl, HP.out⟩
  · obtain rfl : en = 1 := he
    have HC := Lib.hid (stopS_any 1 HST.out.1)
    have HP := Lib.hid (fun W (hS : SSt w0 ua nu uc rb cb D sv tv W (s.stop 1)) (hT : Step D (w.alloc (.cells #[.int .i64 op, .int .i64 (jt : Int), .slice (some ⟨ab, ao, none⟩) 2 ac, .int .i64 num] 83)) D W) => show InsPost w0 ua nu uc rb cb gb n D w (insDo doD call ⟨op, (jt : Int), [(i0 : Int), (i1 : Int)], num⟩ a (b) regs s) W from by
      rw [insDo_ends HOP.out HR.out.symm (by omega)]
      exact InsPost.same hS (HST.out.2.1.stay hT.turned HST.out.2.1.out HST.out.2.1.out) (HST.out.2.2.trans hT))
    clear HE HV HST
    go_enter Try.func54, Try.ntmps54
    go_wp2_with fail
    refine (HPU.out _).mono ?_
    rintro e w1 ⟨rfl, rfl⟩
    go_wp2_with fail
    refine (HDO.out _).mono ?_
    rintro e w1 ⟨rfl, rfl⟩
    go_wp2_with fail
    refine HC.out.mono ?_
    rintro e w2 ⟨rfl, hS2, hT2⟩
    have HF := Lib.hid (HP.out _ hS2 hT2)
    clear hS2 hT2
    go_wp2
    refine bodyPost_ret (results_none rfl _ _ _) rfl ?_
    exact ⟨rfl, HF.out⟩
end

end Go.Proofs.Ytajnldkempeheaa
