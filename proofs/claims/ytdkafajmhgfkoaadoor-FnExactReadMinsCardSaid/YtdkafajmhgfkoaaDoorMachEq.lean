
/-
  The laws' comparison of data of the group Mach: of one datum it answers true.
-/
import Derived.Test.YtdkafajmhgfkoaaDoorMachData
import Derived.StillTailTactics
namespace Go.Proofs.YtdkafajmhgfkoaaDoor
open Go.RowKit

set_option maxHeartbeats 400000 in
theorem eqMins_any (cs cs' : List Value) (x : MinsD) (w : World) (hR : MinsR w cs x) (hR' : MinsR w cs' x) (_ : szMinsD x ≤ 1048576) :
    Calls Tryd.prog 19 #[.agg cs.toArray, .agg cs'.toArray] w fun e w' => e = .returned (.bool true) ∧ Below w.heap.size w w' := by
  obtain rfl := hR
  obtain rfl := hR'
  obtain ⟨op, fa, fb, fc, fn⟩ := x
  have hq_op : (op != op) = false := by simp
  have hq_fa : (fa != fa) = false := by simp
  have hq_fb : (fb != fb) = false := by simp
  have hq_fc : (fc != fc) = false := by simp
  have hq_fn : (fn != fn) = false := by simp
  have hb0 : Below w.heap.size w ((w.alloc (.cells #[.int .i64 op, .int .i64 fa, .int .i64 fb, .int .i64 fc, .int .i64 fn] 41)).alloc (.cells #[.int .i64 op, .int .i64 fa, .int .i64 fb, .int .i64 fc, .int .i64 fn] 41)) := ((Below.refl _ _).alloc (Nat.le_refl _) _).alloc (by simp) _
  go_enter Tryd.func19, Tryd.ntmps19
  go_wp2
  go_ret
  exact ⟨rfl, hb0⟩

set_option maxRecDepth 100000 in
set_option maxHeartbeats 400000 in
theorem eqMinsS_any (a a' : Option Addr) (len cap cap' : Nat) (xs : List MinsD) (w : World) (hin : SliceRd 5 MinsR w a len xs) (hin' : SliceRd 5 MinsR w a' len xs) (hs : szS szMinsD xs ≤ 1048576) :
    Calls Tryd.prog 54 #[.slice a len cap, .slice a' len cap'] w fun e w' => e = .returned (.bool true) ∧ Below w.heap.size w w' := by
  have hne : ((len : Int) != (len : Int)) = false := by simp
  have hlen : len ≤ 1048576 := by have := hin.length; unfold szS at hs; omega
  have HS := Lib.hid hs
  clear hs
  go_enter Tryd.func54, Tryd.ntmps54
  go_wp2
  go_loopw [5] (fun i wr => ∃ k : Nat, k ≤ len ∧ i = .int .i64 k ∧ Below w.heap.size w wr) (fun i _ => len - (intOf i).toNat)
  case atStart => exact ⟨0, Nat.zero_le _, rfl, Below.refl _ _⟩
  case round =>
    obtain ⟨k, hk, rfl, hbr⟩ := hrel
    by_cases hlt : k < len
    · obtain ⟨b, off, op, fa, fb, fc, fn, rfl, hx, c0, c1, c2, c3, c4, hR⟩ := mins_place (hin.later minsR_lasts hbr) hlt
      obtain ⟨b', off', op2, fa2, fb2, fc2, fn2, rfl, hx', d0, d1, d2, d3, d4, hR'⟩ := mins_place (hin'.later minsR_lasts hbr) hlt
      rw [hx] at hx'
      cases hx'
      have hz : szMinsD ⟨op, fa, fb, fc, fn⟩ ≤ 1048576 := Nat.le_trans (szS_mem (List.mem_of_getElem? hx)) HS.out
      have hid : Below wr.heap.size wr wr.drew := (Below.refl _ _).drew
      have HZ := Lib.hid (And.intro hz (And.intro (minsR_lasts _ _ _ _ hid hR) (minsR_lasts _ _ _ _ hid hR')))
      clear hx hid hR hR' hz
      go_wp2_with fail
      go_still_tail 8, (by kernel_rfl)
      change wpList _ _ _ _ _ wr.drew
      have hbd : Below w.heap.size w wr.drew := hbr.drew
      generalize wr.drew = wd at hbd HZ ⊢
      go_wp2_with fail
      refine (eqMins_any _ _ ⟨op, fa, fb, fc, fn⟩ wd HZ.out.2.1 HZ.out.2.2 HZ.out.1).mono ?_
      rintro e w1 ⟨rfl, hb1⟩
      have hb01 := hbd.trans (hb1.mono hbd.size)
      clear hb1 hbd HZ
      go_wp2
      go_roundw
      case rel => exact ⟨k + 1, by omega, by go_num, hb01⟩
      case measure => simp [intOf]; omega
    · obtain rfl : k = len := by omega
      go_wp2
      go_ret
      exact ⟨rfl, hbr⟩

set_option maxHeartbeats 400000 in
theorem eqMfn_any (cs cs' : List Value) (x : MfnD) (w : World) (hR : MfnR w cs x) (hR' : MfnR w cs' x) (hs : szMfnD x ≤ 1048576) :
    Calls Tryd.prog 47 #[.agg cs.toArray, .agg cs'.toArray] w fun e w' => e = .returned (.bool true) ∧ Below w.heap.size w w' := by
  obtain ⟨ins_a, ins_c, rfl, ⟨ins_m, ins_r⟩⟩ := hR
  obtain ⟨ins_a2, ins_c2, rfl, ⟨ins_m2, ins_r2⟩⟩ := hR'
  unfold szMfnD at hs
  obtain ⟨params, slots, ins⟩ := x
  simp only at hs
  have hq_params : (params != params) = false := by simp
  have hq_slots : (slots != slots) = false := by simp
  have hs_ins : szS szMinsD ins ≤ 1048576 := by omega
  clear hs ins_m ins_m2
  have hb0 : Below w.heap.size w ((w.alloc (.cells #[.int .i64 params, .int .i64 slots, .slice ins_a ins.length ins_c] 32)).alloc (.cells #[.int .i64 params, .int .i64 slots, .slice ins_a2 ins.length ins_c2] 32)) := ((Below.refl _ _).alloc (Nat.le_refl _) _).alloc (by simp) _
  go_enter Tryd.func47, Tryd.ntmps47
  go_wp2_with fail
  refine (eqMinsS_any ins_a ins_a2 ins.length ins_c ins_c2 ins _ (ins_r.later minsR_lasts hb0) (ins_r2.later minsR_lasts hb0) hs_ins).mono ?_
  rintro e w1 ⟨rfl, hb1⟩
  have hc1 := hb0.trans (hb1.mono hb0.size)
  clear hb1
  go_wp2
  go_ret
  exact ⟨rfl, hc1⟩

set_option maxRecDepth 100000 in
set_option maxHeartbeats 400000 in
theorem eqMfnS_any (a a' : Option Addr) (len cap cap' : Nat) (xs : List MfnD) (w : World) (hin : SliceRd 3 MfnR w a len xs) (hin' : SliceRd 3 MfnR w a' len xs) (hs : szS szMfnD xs ≤ 1048576) :
    Calls Tryd.prog 30 #[.slice a len cap, .slice a' len cap'] w fun e w' => e = .returned (.bool true) ∧ Below w.heap.size w w' := by
  have hne : ((len : Int) != (len : Int)) = false := by simp
  have hlen : len ≤ 1048576 := by have := hin.length; unfold szS at hs; omega
  have HS := Lib.hid hs
  clear hs
  go_enter Tryd.func30, Tryd.ntmps30
  go_wp2
  go_loopw [5] (fun i wr => ∃ k : Nat, k ≤ len ∧ i = .int .i64 k ∧ Below w.heap.size w wr) (fun i _ => len - (intOf i).toNat)
  case atStart => exact ⟨0, Nat.zero_le _, rfl, Below.refl _ _⟩
  case round =>
    obtain ⟨k, hk, rfl, hbr⟩ := hrel
    by_cases hlt : k < len
    · obtain ⟨b, off, params, slots, ins, ins_a, ins_c, rfl, hx, c0, c1, c2, hR⟩ := mfn_place (hin.later mfnR_lasts hbr) hlt
      obtain ⟨b', off', params2, slots2, ins2, ins_a2, ins_c2, rfl, hx', d0, d1, d2, hR'⟩ := mfn_place (hin'.later mfnR_lasts hbr) hlt
      rw [hx] at hx'
      cases hx'
      have hz : szMfnD ⟨params, slots, ins⟩ ≤ 1048576 := Nat.le_trans (szS_mem (List.mem_of_getElem? hx)) HS.out
      have hid : Below wr.heap.size wr wr.drew := (Below.refl _ _).drew
      have HZ := Lib.hid (And.intro hz (And.intro (mfnR_lasts _ _ _ _ hid hR) (mfnR_lasts _ _ _ _ hid hR')))
      clear hx hid hR hR' hz
      go_wp2_with fail
      go_still_tail 8, (by kernel_rfl)
      change wpList _ _ _ _ _ wr.drew
      have hbd : Below w.heap.size w wr.drew := hbr.drew
      generalize wr.drew = wd at hbd HZ ⊢
      go_wp2_with fail
      refine (eqMfn_any _ _ ⟨params, slots, ins⟩ wd HZ.out.2.1 HZ.out.2.2 HZ.out.1).mono ?_
      rintro e w1 ⟨rfl, hb1⟩
      have hb01 := hbd.trans (hb1.mono hbd.size)
      clear hb1 hbd HZ
      go_wp2
      go_roundw
      case rel => exact ⟨k + 1, by omega, by go_num, hb01⟩
      case measure => simp [intOf]; omega
    · obtain rfl : k = len := by omega
      go_wp2
      go_ret
      exact ⟨rfl, hbr⟩

set_option maxHeartbeats 400000 in
theorem eqMach_any (cs cs' : List Value) (x : MachD) (w : World) (hR : MachR w cs x) (hR' : MachR w cs' x) (hs : szMachD x ≤ 1048576) :
    Calls Tryd.prog 16 #[.agg cs.toArray, .agg cs'.toArray] w fun e w' => e = .returned (.bool true) ∧ Below w.heap.size w w' := by
  obtain ⟨fns_a, fns_c, rfl, ⟨fns_m, fns_r⟩⟩ := hR
  obtain ⟨fns_a2, fns_c2, rfl, ⟨fns_m2, fns_r2⟩⟩ := hR'
  unfold szMachD at hs
  obtain ⟨fns⟩ := x
  simp only at hs
  have hs_fns : szS szMfnD fns ≤ 1048576 := by omega
  clear hs fns_m fns_m2
  have hb0 : Below w.heap.size w ((w.alloc (.cells #[.slice fns_a fns.length fns_c] 25)).alloc (.cells #[.slice fns_a2 fns.length fns_c2] 25)) := ((Below.refl _ _).alloc (Nat.le_refl _) _).alloc (by simp) _
  go_enter Tryd.func16, Tryd.ntmps16
  go_wp2_with fail
  refine (eqMfnS_any fns_a fns_a2 fns.length fns_c fns_c2 fns _ (fns_r.later mfnR_lasts hb0) (fns_r2.later mfnR_lasts hb0) hs_fns).mono ?_
  rintro e w1 ⟨rfl, hb1⟩
  have hc1 := hb0.trans (hb1.mono hb0.size)
  clear hb1
  go_wp2
  go_ret
  exact ⟨rfl, hc1⟩


end Go.Proofs.YtdkafajmhgfkoaaDoor
