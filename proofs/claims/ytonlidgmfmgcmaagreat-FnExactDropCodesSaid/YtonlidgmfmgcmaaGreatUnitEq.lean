
/-
  The laws' comparison of data of the group Unit: of one datum it answers true.
-/
import Derived.Test.YtonlidgmfmgcmaaGreatUnitData
import Derived.StillTailTactics
namespace Go.Proofs.YtonlidgmfmgcmaaGreat
open Go.RowKit

set_option maxHeartbeats 400000 in
theorem eqPhi_any (cs cs' : List Value) (x : PhiD) (w : World) (hR : PhiR w cs x) (hR' : PhiR w cs' x) (hs : szPhiD x ≤ 1048576) :
    Calls Tryz.prog 119 #[.agg cs.toArray, .agg cs'.toArray] w fun e w' => e = .returned (.bool true) ∧ Below w.heap.size w w' := by
  obtain ⟨args_a, args_c, rfl, ⟨args_m, args_r⟩⟩ := hR
  obtain ⟨args_a2, args_c2, rfl, ⟨args_m2, args_r2⟩⟩ := hR'
  unfold szPhiD at hs
  obtain ⟨to, args⟩ := x
  simp only at hs
  have hq_to : (to != to) = false := by simp
  have hs_args : args.length ≤ 1048576 := by omega
  clear hs args_m args_m2
  have hb0 : Below w.heap.size w ((w.alloc (.cells #[.int .i64 to, .slice args_a args.length args_c] 83)).alloc (.cells #[.int .i64 to, .slice args_a2 args.length args_c2] 83)) := ((Below.refl _ _).alloc (Nat.le_refl _) _).alloc (by simp) _
  go_enter Tryz.func119, Tryz.ntmps119
  go_wp2_with fail
  refine (eqIntS_true args_a args_a2 args.length args_c args_c2 args _ (args_r.later hb0) (args_r2.later hb0) (by omega)).mono ?_
  rintro e w1 ⟨rfl, hb1⟩
  have hc1 := hb0.trans (hb1.mono hb0.size)
  clear hb1
  go_wp2
  go_ret
  exact ⟨rfl, hc1⟩

set_option maxRecDepth 100000 in
set_option maxHeartbeats 400000 in
theorem eqPhiS_any (a a' : Option Addr) (len cap cap' : Nat) (xs : List PhiD) (w : World) (hin : SliceRd 2 PhiR w a len xs) (hin' : SliceRd 2 PhiR w a' len xs) (hs : szS szPhiD xs ≤ 1048576) :
    Calls Tryz.prog 102 #[.slice a len cap, .slice a' len cap'] w fun e w' => e = .returned (.bool true) ∧ Below w.heap.size w w' := by
  have hne : ((len : Int) != (len : Int)) = false := by simp
  have hlen : len ≤ 1048576 := by have := hin.length; unfold szS at hs; omega
  have HS := Lib.hid hs
  clear hs
  go_enter Tryz.func102, Tryz.ntmps102
  go_wp2
  go_loopw [5] (fun i wr => ∃ k : Nat, k ≤ len ∧ i = .int .i64 k ∧ Below w.heap.size w wr) (fun i _ => len - (intOf i).toNat)
  case atStart => exact ⟨0, Nat.zero_le _, rfl, Below.refl _ _⟩
  case round =>
    obtain ⟨k, hk, rfl, hbr⟩ := hrel
    by_cases hlt : k < len
    · obtain ⟨b, off, to, args, args_a, args_c, rfl, hx, c0, c1, hR⟩ := phi_place (hin.later phiR_lasts hbr) hlt
      obtain ⟨b', off', to2, args2, args_a2, args_c2, rfl, hx', d0, d1, hR'⟩ := phi_place (hin'.later phiR_lasts hbr) hlt
      rw [hx] at hx'
      cases hx'
      have hz : szPhiD ⟨to, args⟩ ≤ 1048576 := Nat.le_trans (szS_mem (List.mem_of_getElem? hx)) HS.out
      have hid : Below wr.heap.size wr wr.drew := (Below.refl _ _).drew
      have HZ := Lib.hid (And.intro hz (And.intro (phiR_lasts _ _ _ _ hid hR) (phiR_lasts _ _ _ _ hid hR')))
      clear hx hid hR hR' hz
      go_wp2_with fail
      go_still_tail 8, (by kernel_rfl)
      change wpList _ _ _ _ _ wr.drew
      have hbd : Below w.heap.size w wr.drew := hbr.drew
      generalize wr.drew = wd at hbd HZ ⊢
      go_wp2_with fail
      refine (eqPhi_any _ _ ⟨to, args⟩ wd HZ.out.2.1 HZ.out.2.2 HZ.out.1).mono ?_
      rintro e w1 ⟨rfl, hb1⟩
      have hb01 := hbd.trans (hb1.mono hbd.size)
      clear hb1 hbd HZ
      go_wp2
      go_roundw
      case rel => exact ⟨k + 1, by omega, by go_num, hb01⟩
      case measure => simp [intOf]; omega
    · obtain rfl : k = len := by omega
      go_wp2
      go_ret
      exact ⟨rfl, hbr⟩

set_option maxHeartbeats 400000 in
theorem eqIns_any (cs cs' : List Value) (x : InsD) (w : World) (hR : InsR w cs x) (hR' : InsR w cs' x) (hs : szInsD x ≤ 1048576) :
    Calls Tryz.prog 120 #[.agg cs.toArray, .agg cs'.toArray] w fun e w' => e = .returned (.bool true) ∧ Below w.heap.size w w' := by
  obtain ⟨args_a, args_c, rfl, ⟨args_m, args_r⟩⟩ := hR
  obtain ⟨args_a2, args_c2, rfl, ⟨args_m2, args_r2⟩⟩ := hR'
  unfold szInsD at hs
  obtain ⟨op, to, args, num⟩ := x
  simp only at hs
  have hq_op : (op != op) = false := by simp
  have hq_to : (to != to) = false := by simp
  have hq_num : (num != num) = false := by simp
  have hs_args : args.length ≤ 1048576 := by omega
  clear hs args_m args_m2
  have hb0 : Below w.heap.size w ((w.alloc (.cells #[.int .i64 op, .int .i64 to, .slice args_a args.length args_c, .int .i64 num] 45)).alloc (.cells #[.int .i64 op, .int .i64 to, .slice args_a2 args.length args_c2, .int .i64 num] 45)) := ((Below.refl _ _).alloc (Nat.le_refl _) _).alloc (by simp) _
  go_enter Tryz.func120, Tryz.ntmps120
  go_wp2_with fail
  refine (eqIntS_true args_a args_a2 args.length args_c args_c2 args _ (args_r.later hb0) (args_r2.later hb0) (by omega)).mono ?_
  rintro e w1 ⟨rfl, hb1⟩
  have hc1 := hb0.trans (hb1.mono hb0.size)
  have he1 : Below (w.heap.size + 2) ((w.alloc (.cells #[.int .i64 op, .int .i64 to, .slice args_a args.length args_c, .int .i64 num] 45)).alloc (.cells #[.int .i64 op, .int .i64 to, .slice args_a2 args.length args_c2, .int .i64 num] 45)) w1 := hb1.mono (by simp)
  have hA1 := (he1.block w.heap.size (by omega)).trans (heap_alloc2_old w _ _)
  have hB1 := (he1.block (w.heap.size + 1) (by omega)).trans (heap_alloc2_new w _ _)
  have hP0_3 := cell_of_row w1 (w.heap.size) 3 _ _ _ hA1
  simp only [List.getElem?_toArray, List.getElem?_cons_zero, List.getElem?_cons_succ] at hP0_3
  have hR0_3 := cell_of_row w1 (w.heap.size + 1) 3 _ _ _ hB1
  simp only [List.getElem?_toArray, List.getElem?_cons_zero, List.getElem?_cons_succ] at hR0_3
  clear hA1 hB1
  clear hb1
  go_wp2
  go_ret
  exact ⟨rfl, hc1⟩

set_option maxRecDepth 100000 in
set_option maxHeartbeats 400000 in
theorem eqInsS_any (a a' : Option Addr) (len cap cap' : Nat) (xs : List InsD) (w : World) (hin : SliceRd 4 InsR w a len xs) (hin' : SliceRd 4 InsR w a' len xs) (hs : szS szInsD xs ≤ 1048576) :
    Calls Tryz.prog 103 #[.slice a len cap, .slice a' len cap'] w fun e w' => e = .returned (.bool true) ∧ Below w.heap.size w w' := by
  have hne : ((len : Int) != (len : Int)) = false := by simp
  have hlen : len ≤ 1048576 := by have := hin.length; unfold szS at hs; omega
  have HS := Lib.hid hs
  clear hs
  go_enter Tryz.func103, Tryz.ntmps103
  go_wp2
  go_loopw [5] (fun i wr => ∃ k : Nat, k ≤ len ∧ i = .int .i64 k ∧ Below w.heap.size w wr) (fun i _ => len - (intOf i).toNat)
  case atStart => exact ⟨0, Nat.zero_le _, rfl, Below.refl _ _⟩
  case round =>
    obtain ⟨k, hk, rfl, hbr⟩ := hrel
    by_cases hlt : k < len
    · obtain ⟨b, off, op, to, args, num, args_a, args_c, rfl, hx, c0, c1, c2, c3, hR⟩ := ins_place (hin.later insR_lasts hbr) hlt
      obtain ⟨b', off', op2, to2, args2, num2, args_a2, args_c2, rfl, hx', d0, d1, d2, d3, hR'⟩ := ins_place (hin'.later insR_lasts hbr) hlt
      rw [hx] at hx'
      cases hx'
      have hz : szInsD ⟨op, to, args, num⟩ ≤ 1048576 := Nat.le_trans (szS_mem (List.mem_of_getElem? hx)) HS.out
      have hid : Below wr.heap.size wr wr.drew := (Below.refl _ _).drew
      have HZ := Lib.hid (And.intro hz (And.intro (insR_lasts _ _ _ _ hid hR) (insR_lasts _ _ _ _ hid hR')))
      clear hx hid hR hR' hz
      go_wp2_with fail
      go_still_tail 8, (by kernel_rfl)
      change wpList _ _ _ _ _ wr.drew
      have hbd : Below w.heap.size w wr.drew := hbr.drew
      generalize wr.drew = wd at hbd HZ ⊢
      go_wp2_with fail
      refine (eqIns_any _ _ ⟨op, to, args, num⟩ wd HZ.out.2.1 HZ.out.2.2 HZ.out.1).mono ?_
      rintro e w1 ⟨rfl, hb1⟩
      have hb01 := hbd.trans (hb1.mono hbd.size)
      clear hb1 hbd HZ
      go_wp2
      go_roundw
      case rel => exact ⟨k + 1, by omega, by go_num, hb01⟩
      case measure => simp [intOf]; omega
    · obtain rfl : k = len := by omega
      go_wp2
      go_ret
      exact ⟨rfl, hbr⟩

set_option maxHeartbeats 400000 in
theorem eqBlock_any (cs cs' : List Value) (x : BlockD) (w : World) (hR : BlockR w cs x) (hR' : BlockR w cs' x) (hs : szBlockD x ≤ 1048576) :
    Calls Tryz.prog 93 #[.agg cs.toArray, .agg cs'.toArray] w fun e w' => e = .returned (.bool true) ∧ Below w.heap.size w w' := by
  obtain ⟨phis_a, phis_c, ins_a, ins_c, nx_a, nx_c, rfl, ⟨phis_m, phis_r⟩, ⟨ins_m, ins_r⟩, ⟨nx_m, nx_r⟩⟩ := hR
  obtain ⟨phis_a2, phis_c2, ins_a2, ins_c2, nx_a2, nx_c2, rfl, ⟨phis_m2, phis_r2⟩, ⟨ins_m2, ins_r2⟩, ⟨nx_m2, nx_r2⟩⟩ := hR'
  unfold szBlockD at hs
  obtain ⟨phis, ins, jump, jon, nx⟩ := x
  simp only at hs
  have hq_jump : (jump != jump) = false := by simp
  have hq_jon : (jon != jon) = false := by simp
  have hs_phis : szS szPhiD phis ≤ 1048576 := by omega
  have hs_ins : szS szInsD ins ≤ 1048576 := by omega
  have hs_nx : nx.length ≤ 1048576 := by omega
  clear hs phis_m phis_m2 ins_m ins_m2 nx_m nx_m2
  have hb0 : Below w.heap.size w ((w.alloc (.cells #[.slice phis_a phis.length phis_c, .slice ins_a ins.length ins_c, .int .i64 jump, .int .i64 jon, .slice nx_a nx.length nx_c] 49)).alloc (.cells #[.slice phis_a2 phis.length phis_c2, .slice ins_a2 ins.length ins_c2, .int .i64 jump, .int .i64 jon, .slice nx_a2 nx.length nx_c2] 49)) := ((Below.refl _ _).alloc (Nat.le_refl _) _).alloc (by simp) _
  go_enter Tryz.func93, Tryz.ntmps93
  go_wp2_with fail
  refine (eqPhiS_any phis_a phis_a2 phis.length phis_c phis_c2 phis _ (phis_r.later phiR_lasts hb0) (phis_r2.later phiR_lasts hb0) hs_phis).mono ?_
  rintro e w1 ⟨rfl, hb1⟩
  have hc1 := hb0.trans (hb1.mono hb0.size)
  have he1 : Below (w.heap.size + 2) ((w.alloc (.cells #[.slice phis_a phis.length phis_c, .slice ins_a ins.length ins_c, .int .i64 jump, .int .i64 jon, .slice nx_a nx.length nx_c] 49)).alloc (.cells #[.slice phis_a2 phis.length phis_c2, .slice ins_a2 ins.length ins_c2, .int .i64 jump, .int .i64 jon, .slice nx_a2 nx.length nx_c2] 49)) w1 := hb1.mono (by simp)
  have hA1 := (he1.block w.heap.size (by omega)).trans (heap_alloc2_old w _ _)
  have hB1 := (he1.block (w.heap.size + 1) (by omega)).trans (heap_alloc2_new w _ _)
  have hP0_1 := cell_of_row w1 (w.heap.size) 1 _ _ _ hA1
  simp only [List.getElem?_toArray, List.getElem?_cons_zero, List.getElem?_cons_succ] at hP0_1
  have hR0_1 := cell_of_row w1 (w.heap.size + 1) 1 _ _ _ hB1
  simp only [List.getElem?_toArray, List.getElem?_cons_zero, List.getElem?_cons_succ] at hR0_1
  have hP0_2 := cell_of_row w1 (w.heap.size) 2 _ _ _ hA1
  simp only [List.getElem?_toArray, List.getElem?_cons_zero, List.getElem?_cons_succ] at hP0_2
  have hR0_2 := cell_of_row w1 (w.heap.size + 1) 2 _ _ _ hB1
  simp only [List.getElem?_toArray, List.getElem?_cons_zero, List.getElem?_cons_succ] at hR0_2
  have hP0_3 := cell_of_row w1 (w.heap.size) 3 _ _ _ hA1
  simp only [List.getElem?_toArray, List.getElem?_cons_zero, List.getElem?_cons_succ] at hP0_3
  have hR0_3 := cell_of_row w1 (w.heap.size + 1) 3 _ _ _ hB1
  simp only [List.getElem?_toArray, List.getElem?_cons_zero, List.getElem?_cons_succ] at hR0_3
  have hP0_4 := cell_of_row w1 (w.heap.size) 4 _ _ _ hA1
  simp only [List.getElem?_toArray, List.getElem?_cons_zero, List.getElem?_cons_succ] at hP0_4
  have hR0_4 := cell_of_row w1 (w.heap.size + 1) 4 _ _ _ hB1
  simp only [List.getElem?_toArray, List.getElem?_cons_zero, List.getElem?_cons_succ] at hR0_4
  clear hA1 hB1
  clear hb1
  go_wp2_with fail
  refine (eqInsS_any ins_a ins_a2 ins.length ins_c ins_c2 ins _ (ins_r.later insR_lasts hc1) (ins_r2.later insR_lasts hc1) hs_ins).mono ?_
  rintro e w2 ⟨rfl, hb2⟩
  have hc2 := hc1.trans (hb2.mono hc1.size)
  have he2 : Below (w.heap.size + 2) ((w.alloc (.cells #[.slice phis_a phis.length phis_c, .slice ins_a ins.length ins_c, .int .i64 jump, .int .i64 jon, .slice nx_a nx.length nx_c] 49)).alloc (.cells #[.slice phis_a2 phis.length phis_c2, .slice ins_a2 ins.length ins_c2, .int .i64 jump, .int .i64 jon, .slice nx_a2 nx.length nx_c2] 49)) w2 := he1.trans (hb2.mono (by have := he1.size; simp at this; omega))
  have hA2 := (he2.block w.heap.size (by omega)).trans (heap_alloc2_old w _ _)
  have hB2 := (he2.block (w.heap.size + 1) (by omega)).trans (heap_alloc2_new w _ _)
  have hP1_2 := cell_of_row w2 (w.heap.size) 2 _ _ _ hA2
  simp only [List.getElem?_toArray, List.getElem?_cons_zero, List.getElem?_cons_succ] at hP1_2
  have hR1_2 := cell_of_row w2 (w.heap.size + 1) 2 _ _ _ hB2
  simp only [List.getElem?_toArray, List.getElem?_cons_zero, List.getElem?_cons_succ] at hR1_2
  have hP1_3 := cell_of_row w2 (w.heap.size) 3 _ _ _ hA2
  simp only [List.getElem?_toArray, List.getElem?_cons_zero, List.getElem?_cons_succ] at hP1_3
  have hR1_3 := cell_of_row w2 (w.heap.size + 1) 3 _ _ _ hB2
  simp only [List.getElem?_toArray, List.getElem?_cons_zero, List.getElem?_cons_succ] at hR1_3
  have hP1_4 := cell_of_row w2 (w.heap.size) 4 _ _ _ hA2
  simp only [List.getElem?_toArray, List.getElem?_cons_zero, List.getElem?_cons_succ] at hP1_4
  have hR1_4 := cell_of_row w2 (w.heap.size + 1) 4 _ _ _ hB2
  simp only [List.getElem?_toArray, List.getElem?_cons_zero, List.getElem?_cons_succ] at hR1_4
  clear hA2 hB2
  clear hb2
  go_wp2_with fail
  refine (eqIntS_true nx_a nx_a2 nx.length nx_c nx_c2 nx _ (nx_r.later hc2) (nx_r2.later hc2) (by omega)).mono ?_
  rintro e w3 ⟨rfl, hb3⟩
  have hc3 := hc2.trans (hb3.mono hc2.size)
  clear hb3
  go_wp2
  go_ret
  exact ⟨rfl, hc3⟩

set_option maxRecDepth 100000 in
set_option maxHeartbeats 400000 in
theorem eqBlockS_any (a a' : Option Addr) (len cap cap' : Nat) (xs : List BlockD) (w : World) (hin : SliceRd 5 BlockR w a len xs) (hin' : SliceRd 5 BlockR w a' len xs) (hs : szS szBlockD xs ≤ 1048576) :
    Calls Tryz.prog 69 #[.slice a len cap, .slice a' len cap'] w fun e w' => e = .returned (.bool true) ∧ Below w.heap.size w w' := by
  have hne : ((len : Int) != (len : Int)) = false := by simp
  have hlen : len ≤ 1048576 := by have := hin.length; unfold szS at hs; omega
  have HS := Lib.hid hs
  clear hs
  go_enter Tryz.func69, Tryz.ntmps69
  go_wp2
  go_loopw [5] (fun i wr => ∃ k : Nat, k ≤ len ∧ i = .int .i64 k ∧ Below w.heap.size w wr) (fun i _ => len - (intOf i).toNat)
  case atStart => exact ⟨0, Nat.zero_le _, rfl, Below.refl _ _⟩
  case round =>
    obtain ⟨k, hk, rfl, hbr⟩ := hrel
    by_cases hlt : k < len
    · obtain ⟨b, off, phis, ins, jump, jon, nx, phis_a, phis_c, ins_a, ins_c, nx_a, nx_c, rfl, hx, c0, c1, c2, c3, c4, hR⟩ := block_place (hin.later blockR_lasts hbr) hlt
      obtain ⟨b', off', phis2, ins2, jump2, jon2, nx2, phis_a2, phis_c2, ins_a2, ins_c2, nx_a2, nx_c2, rfl, hx', d0, d1, d2, d3, d4, hR'⟩ := block_place (hin'.later blockR_lasts hbr) hlt
      rw [hx] at hx'
      cases hx'
      have hz : szBlockD ⟨phis, ins, jump, jon, nx⟩ ≤ 1048576 := Nat.le_trans (szS_mem (List.mem_of_getElem? hx)) HS.out
      have hid : Below wr.heap.size wr wr.drew := (Below.refl _ _).drew
      have HZ := Lib.hid (And.intro hz (And.intro (blockR_lasts _ _ _ _ hid hR) (blockR_lasts _ _ _ _ hid hR')))
      clear hx hid hR hR' hz
      go_wp2_with fail
      go_still_tail 8, (by kernel_rfl)
      change wpList _ _ _ _ _ wr.drew
      have hbd : Below w.heap.size w wr.drew := hbr.drew
      generalize wr.drew = wd at hbd HZ ⊢
      go_wp2_with fail
      refine (eqBlock_any _ _ ⟨phis, ins, jump, jon, nx⟩ wd HZ.out.2.1 HZ.out.2.2 HZ.out.1).mono ?_
      rintro e w1 ⟨rfl, hb1⟩
      have hb01 := hbd.trans (hb1.mono hbd.size)
      clear hb1 hbd HZ
      go_wp2
      go_roundw
      case rel => exact ⟨k + 1, by omega, by go_num, hb01⟩
      case measure => simp [intOf]; omega
    · obtain rfl : k = len := by omega
      go_wp2
      go_ret
      exact ⟨rfl, hbr⟩

set_option maxHeartbeats 400000 in
theorem eqCode_any (cs cs' : List Value) (x : CodeD) (w : World) (hR : CodeR w cs x) (hR' : CodeR w cs' x) (hs : szCodeD x ≤ 1048576) :
    Calls Tryz.prog 46 #[.agg cs.toArray, .agg cs'.toArray] w fun e w' => e = .returned (.bool true) ∧ Below w.heap.size w w' := by
  obtain ⟨blocks_a, blocks_c, rfl, ⟨blocks_m, blocks_r⟩⟩ := hR
  obtain ⟨blocks_a2, blocks_c2, rfl, ⟨blocks_m2, blocks_r2⟩⟩ := hR'
  unfold szCodeD at hs
  obtain ⟨params, regs, blocks⟩ := x
  simp only at hs
  have hq_params : (params != params) = false := by simp
  have hq_regs : (regs != regs) = false := by simp
  have hs_blocks : szS szBlockD blocks ≤ 1048576 := by omega
  clear hs blocks_m blocks_m2
  have hb0 : Below w.heap.size w ((w.alloc (.cells #[.int .i64 params, .int .i64 regs, .slice blocks_a blocks.length blocks_c] 52)).alloc (.cells #[.int .i64 params, .int .i64 regs, .slice blocks_a2 blocks.length blocks_c2] 52)) := ((Below.refl _ _).alloc (Nat.le_refl _) _).alloc (by simp) _
  go_enter Tryz.func46, Tryz.ntmps46
  go_wp2_with fail
  refine (eqBlockS_any blocks_a blocks_a2 blocks.length blocks_c blocks_c2 blocks _ (blocks_r.later blockR_lasts hb0) (blocks_r2.later blockR_lasts hb0) hs_blocks).mono ?_
  rintro e w1 ⟨rfl, hb1⟩
  have hc1 := hb0.trans (hb1.mono hb0.size)
  clear hb1
  go_wp2
  go_ret
  exact ⟨rfl, hc1⟩

set_option maxRecDepth 100000 in
set_option maxHeartbeats 400000 in
theorem eqCodeS_any (a a' : Option Addr) (len cap cap' : Nat) (xs : List CodeD) (w : World) (hin : SliceRd 3 CodeR w a len xs) (hin' : SliceRd 3 CodeR w a' len xs) (hs : szS szCodeD xs ≤ 1048576) :
    Calls Tryz.prog 24 #[.slice a len cap, .slice a' len cap'] w fun e w' => e = .returned (.bool true) ∧ Below w.heap.size w w' := by
  have hne : ((len : Int) != (len : Int)) = false := by simp
  have hlen : len ≤ 1048576 := by have := hin.length; unfold szS at hs; omega
  have HS := Lib.hid hs
  clear hs
  go_enter Tryz.func24, Tryz.ntmps24
  go_wp2
  go_loopw [5] (fun i wr => ∃ k : Nat, k ≤ len ∧ i = .int .i64 k ∧ Below w.heap.size w wr) (fun i _ => len - (intOf i).toNat)
  case atStart => exact ⟨0, Nat.zero_le _, rfl, Below.refl _ _⟩
  case round =>
    obtain ⟨k, hk, rfl, hbr⟩ := hrel
    by_cases hlt : k < len
    · obtain ⟨b, off, params, regs, blocks, blocks_a, blocks_c, rfl, hx, c0, c1, c2, hR⟩ := code_place (hin.later codeR_lasts hbr) hlt
      obtain ⟨b', off', params2, regs2, blocks2, blocks_a2, blocks_c2, rfl, hx', d0, d1, d2, hR'⟩ := code_place (hin'.later codeR_lasts hbr) hlt
      rw [hx] at hx'
      cases hx'
      have hz : szCodeD ⟨params, regs, blocks⟩ ≤ 1048576 := Nat.le_trans (szS_mem (List.mem_of_getElem? hx)) HS.out
      have hid : Below wr.heap.size wr wr.drew := (Below.refl _ _).drew
      have HZ := Lib.hid (And.intro hz (And.intro (codeR_lasts _ _ _ _ hid hR) (codeR_lasts _ _ _ _ hid hR')))
      clear hx hid hR hR' hz
      go_wp2_with fail
      go_still_tail 8, (by kernel_rfl)
      change wpList _ _ _ _ _ wr.drew
      have hbd : Below w.heap.size w wr.drew := hbr.drew
      generalize wr.drew = wd at hbd HZ ⊢
      go_wp2_with fail
      refine (eqCode_any _ _ ⟨params, regs, blocks⟩ wd HZ.out.2.1 HZ.out.2.2 HZ.out.1).mono ?_
      rintro e w1 ⟨rfl, hb1⟩
      have hb01 := hbd.trans (hb1.mono hbd.size)
      clear hb1 hbd HZ
      go_wp2
      go_roundw
      case rel => exact ⟨k + 1, by omega, by go_num, hb01⟩
      case measure => simp [intOf]; omega
    · obtain rfl : k = len := by omega
      go_wp2
      go_ret
      exact ⟨rfl, hbr⟩

set_option maxHeartbeats 400000 in
theorem eqUnit_any (cs cs' : List Value) (x : UnitD) (w : World) (hR : UnitR w cs x) (hR' : UnitR w cs' x) (hs : szUnitD x ≤ 1048576) :
    Calls Tryz.prog 10 #[.agg cs.toArray, .agg cs'.toArray] w fun e w' => e = .returned (.bool true) ∧ Below w.heap.size w w' := by
  obtain ⟨codes_a, codes_c, rfl, ⟨codes_m, codes_r⟩⟩ := hR
  obtain ⟨codes_a2, codes_c2, rfl, ⟨codes_m2, codes_r2⟩⟩ := hR'
  unfold szUnitD at hs
  obtain ⟨codes⟩ := x
  simp only at hs
  have hs_codes : szS szCodeD codes ≤ 1048576 := by omega
  clear hs codes_m codes_m2
  have hb0 : Below w.heap.size w ((w.alloc (.cells #[.slice codes_a codes.length codes_c] 30)).alloc (.cells #[.slice codes_a2 codes.length codes_c2] 30)) := ((Below.refl _ _).alloc (Nat.le_refl _) _).alloc (by simp) _
  go_enter Tryz.func10, Tryz.ntmps10
  go_wp2_with fail
  refine (eqCodeS_any codes_a codes_a2 codes.length codes_c codes_c2 codes _ (codes_r.later codeR_lasts hb0) (codes_r2.later codeR_lasts hb0) hs_codes).mono ?_
  rintro e w1 ⟨rfl, hb1⟩
  have hc1 := hb0.trans (hb1.mono hb0.size)
  clear hb1
  go_wp2
  go_ret
  exact ⟨rfl, hc1⟩


end Go.Proofs.YtonlidgmfmgcmaaGreat
