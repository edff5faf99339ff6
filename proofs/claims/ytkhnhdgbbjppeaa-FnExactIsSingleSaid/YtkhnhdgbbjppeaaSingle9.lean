
/-
  IsSingle, the program's.
-/
import Derived.Test.YtkhnhdgbbjppeaaSingle8
import Derived.Test.YtkhnhdgbbjppeaaSingle5
namespace Go.Proofs.Ytkhnhdgbbjppeaa
open Go.RowKit

theorem singleCode_code (us : List CodeD) (k : Nat) (c : CodeD) (hc : codeB us k c = true) (cs : List Value) (w : World) (hR : CodeR w cs c) (hsz : szCodeD c ≤ 1048576) :
    Calls Try.prog 80 #[.agg cs.toArray] w fun e w' => e = .returned (.bool (singleB c)) ∧ Below w.heap.size w w' := by
  obtain ⟨ba, bc, rfl, hg⟩ := gr_of_code hR hsz
  obtain ⟨params, regs, blocks⟩ := c
  have hl : (nxs ⟨params, regs, blocks⟩).length = blocks.length := nxs_len _
  rw [hl] at hR ⊢
  exact singleCode_any us k params regs blocks ba bc hc w hR hsz hg

set_option maxRecDepth 100000 in
theorem notSingle_any (us : List CodeD) (k : Nat) (c : CodeD) (hc : codeB us k c = true) (cs : List Value) (w : World) (hR : CodeR w cs c) (hsz : szCodeD c ≤ 1048576) :
    Calls Try.prog 79 #[.agg cs.toArray] w fun e w' => e = .returned (.bool (!singleB c)) ∧ Below w.heap.size w w' := by
  obtain ⟨params, regs, blocks⟩ := c
  have hR2 := hR
  obtain ⟨ba, bc, rfl, _, _⟩ := hR2
  have hb0 := below_box w (.int .i64 params) (.int .i64 regs) (.slice ba blocks.length bc)
  have hrow := heap_alloc_new w (.cells #[.int .i64 params, .int .i64 regs, .slice ba blocks.length bc] 51)
  have k0 := cell_of_row _ _ 0 _ _ _ hrow
  have k1 := cell_of_row _ _ 1 _ _ _ hrow
  have k2 := cell_of_row _ _ 2 _ _ _ hrow
  simp only [List.getElem?_toArray, List.getElem?_cons_zero, List.getElem?_cons_succ] at k0 k1 k2
  have HS := Lib.hid (And.intro (singleCode_code us k _ hc _ _ (codeR_lasts _ _ _ _ hb0 hR) hsz) hb0)
  clear hb0 hrow hR
  go_enter Try.func79, Try.ntmps79
  go_wp2_with fail
  refine HS.out.1.mono ?_
  rintro e w1 ⟨rfl, hb1⟩
  have HB := Lib.hid (HS.out.2.trans (hb1.mono HS.out.2.size))
  clear hb1
  go_wp2
  go_ret
  exact ⟨rfl, HB.out⟩

theorem any_not_all {α : Type} (q : α → Bool) (xs : List α) : xs.any (fun x => !q x) = !xs.all q := by
  rw [← List.not_all_eq_any_not]

set_option maxRecDepth 100000 in
set_option maxHeartbeats 1000000 in
theorem implIsSingle_any (us : List CodeD) (ua : Option Addr) (uc : Nat) (hsz : szS szCodeD us ≤ 1048576) (w : World) (hU : SliceRd 3 CodeR w ua us.length us) :
    Calls Try.prog 39 #[.agg #[.slice ua us.length uc]] w fun e w' => e = .returned (.bool (singleUB us)) ∧ Below w.heap.size w w' := by
  have hmf : ∀ (fn : Fn) (first cap : Array Value) (w : World), (Instr.makeFunc fn first cap).run Try.prog w = .ok (.func fn first cap) w := fun _ _ _ _ => rfl
  have hb0 : Below w.heap.size w (w.alloc (.cells #[.slice ua us.length uc] 29)) := (Below.refl _ _).alloc (Nat.le_refl _) _
  have hrow := heap_alloc_new w (.cells #[.slice ua us.length uc] 29)
  have hc0 : (w.alloc (.cells #[.slice ua us.length uc] 29)).cell? ⟨w.heap.size, 0, none⟩ = some (.slice ua us.length uc) := cell_of_row _ _ 0 _ _ _ hrow
  have hn2 : us.length ≤ 1048576 := Nat.le_trans (szS_len szCodeD us) hsz
  have HC := Lib.hid (And.intro (implUnitValid_any us ua uc hsz _ (hU.later codeR_lasts hb0)) (And.intro hb0 (And.intro (hU.later codeR_lasts hb0) hsz)))
  clear hU hrow hsz
  go_enter Try.func39, Try.ntmps39
  go_wp2_with fail
  refine HC.out.1.mono ?_
  cases hv : unitB us with
  | false =>
    have HN := Lib.hid (show singleUB us = false by rw [singleUB, hv]; rfl)
    clear hv
    rintro e w1 ⟨rfl, hb1⟩
    have hc1 := cell_later hb1 hc0
    have HB := Lib.hid (HC.out.2.1.trans (hb1.mono HC.out.2.1.size))
    clear hb1 hb0
    go_wp2
    go_ret
    exact ⟨ret_bool HN.out.symm, HB.out⟩
  | true =>
    have HN := Lib.hid (show singleUB us = us.all singleB by rw [singleUB, hv]; rfl)
    have HV := Lib.hid hv
    clear hv
    rintro e w1 ⟨rfl, hb1⟩
    have hc1 := cell_later hb1 hc0
    have HB := Lib.hid (And.intro (HC.out.2.1.trans (hb1.mono HC.out.2.1.size)) (HC.out.2.2.1.later codeR_lasts hb1))
    clear hb1 hb0 hc0
    have HFn := Lib.hid (⟨fun _ _ => rfl, fun x hx cs W hW hR => by
      obtain ⟨k, hk⟩ := List.getElem?_of_mem hx
      exact notSingle_any us k x (unit_code HV.out hk) cs W hR (szS_get (sz := szCodeD) HC.out.2.2.2 hk).1⟩ : CodeFn w1 79 #[] us (fun c => !singleB c))
    go_wp2_with fail
    refine (containsCodes_any _ _ _ ua us.length uc us w1 HB.out.2 HFn.out (by omega)).mono ?_
    rw [any_not_all]
    rintro e w2 ⟨rfl, hb2⟩
    have HBE := Lib.hid (HB.out.1.trans (hb2.mono HB.out.1.size))
    clear hb2
    go_wp2
    go_ret
    exact ⟨ret_bool (by rw [HN.out]), HBE.out⟩

end Go.Proofs.Ytkhnhdgbbjppeaa
