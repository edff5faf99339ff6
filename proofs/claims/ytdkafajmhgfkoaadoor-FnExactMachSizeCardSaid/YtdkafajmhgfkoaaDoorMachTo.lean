
/-
  The laws' copies of data of the group Mach.
-/
import Derived.Test.YtdkafajmhgfkoaaDoorMachOwn
namespace Go.Proofs.YtdkafajmhgfkoaaDoor
open Go.RowKit

set_option maxHeartbeats 400000 in
theorem toMins_any (cs : List Value) (x : MinsD) (w : World) (hR : MinsR w cs x) (_ : szMinsD x ≤ 1048576) :
    Calls Tryd.prog 60 #[.agg cs.toArray] w fun e w' => ∃ cs', e = .returned (.agg cs'.toArray) ∧ MinsO w.heap.size w'.heap.size w' cs' x ∧ Below w.heap.size w w' := by
  obtain rfl := hR
  obtain ⟨op, fa, fb, fc, fn⟩ := x
  go_enter Tryd.func60, Tryd.ntmps60
  have hb : Below w.heap.size w (((w.alloc (.cells #[.int .i64 op, .int .i64 fa, .int .i64 fb, .int .i64 fc, .int .i64 fn] 104)).alloc (.cells #[.int .i64 op, .int .i64 fa, .int .i64 fb, .int .i64 fc, .int .i64 fn] 41)).alloc (.cells #[.int .i64 op, .int .i64 fa, .int .i64 fb, .int .i64 fc, .int .i64 fn] 41)) := (((Below.refl _ _).alloc (Nat.le_refl _) _).alloc (by simp) _).alloc (by simp; omega) _
  go_wp2
  refine bodyPost_ret (results_cell_row rfl _ _ (w.heap.size + 1) 41 #[.int .i64 op, .int .i64 fa, .int .i64 fb, .int .i64 fc, .int .i64 fn] (0, 0) _ rfl ?_ Tryd.underlying41 rfl (by kernel_rfl)) rfl ⟨_, rfl, ⟨hb.size, rfl⟩, hb⟩
  rw [(World.grownBy_alloc _ _ none).block (w.heap.size + 1) (by simp) (by simp)]
  have h1 := heap_alloc_new (w.alloc (.cells #[.int .i64 op, .int .i64 fa, .int .i64 fb, .int .i64 fc, .int .i64 fn] 104)) (.cells #[.int .i64 op, .int .i64 fa, .int .i64 fb, .int .i64 fc, .int .i64 fn] 41)
  rw [World.size_alloc] at h1
  exact h1
theorem info_Mins : (Tryd.prog.info? 41).map (fun i => (i.zero, i.size, i.bytes)) = some (some (.agg #[.int .i64 0, .int .i64 0, .int .i64 0, .int .i64 0, .int .i64 0]), 5, 40) := by kernel_rfl
theorem und_MinsS : Tryd.prog.underlying 30 = some (.slice 41) := by kernel_rfl
set_option maxHeartbeats 1000000 in
theorem toMinsS_any (a : Option Addr) (len cap : Nat) (xs : List MinsD) (w : World) (hin : SliceRd 5 MinsR w a len xs) (hs : szS szMinsD xs ≤ 1048576) :
    Calls Tryd.prog 53 #[.slice a len cap] w fun e w' => ∃ a' c', e = .returned (.slice a' len c') ∧ SliceOwn 5 41 MinsO w.heap.size w'.heap.size w' a' len c' xs ∧ Below w.heap.size w w' := by
  have hlen : len ≤ 1048576 := by have := hin.length; unfold szS at hs; omega
  obtain ⟨i0, hi, hz0, hz1, hz2⟩ := info_parts info_Mins
  go_enter Tryd.func53, Tryd.ntmps53
  go_wp2_with (at_make; refine wpList_make_full _ rfl _ _ 30 rfl w.heap.size 41 i0 (.agg #[.int .i64 0, .int .i64 0, .int .i64 0, .int .i64 0, .int .i64 0]) 5 und_MinsS hi hz0 hz1 _ _ _ _ len rfl rfl rfl rfl (by rw [hz2]; omega) (by unfold maxLen; omega) (Nat.le_refl _) ?_; intro w1 hown hg)
  have hb1 : Below w.heap.size w w1 := (Below.refl _ _).grown hg (Nat.le_refl _) (by simp)
  have hf : SliceFill 5 41 MinsO w.heap.size w1.heap.size w1 len [.int .i64 0, .int .i64 0, .int .i64 0, .int .i64 0, .int .i64 0] [] := SliceFill.start (by rw [← toList_madeCells _ _ (by decide)]; exact hown) rfl (hown.lt w.heap.size rfl).2
  have HF := Lib.hid hf
  have HS := Lib.hid (And.intro hs hin.length)
  clear hown hg hi hz0 hz1 hz2 hf hs
  go_wp2
  go_loopw [4] (fun i wr => ∃ k : Nat, k ≤ len ∧ i = .int .i64 k ∧ Below w.heap.size w wr ∧ Hid (SliceFill 5 41 MinsO w.heap.size wr.heap.size wr len [.int .i64 0, .int .i64 0, .int .i64 0, .int .i64 0, .int .i64 0] (xs.take k))) (fun i _ => len - (intOf i).toNat)
  case atStart => exact ⟨0, Nat.zero_le _, rfl, hb1, Lib.hid (by simpa using HF.out)⟩
  case round =>
    obtain ⟨k, hk, rfl, hbr, HD⟩ := hrel
    clear HF hb1
    by_cases hlt : k < len
    · obtain ⟨b, off, op, fa, fb, fc, fn, rfl, hx, c0, c1, c2, c3, c4, hR⟩ := mins_place (hin.later minsR_lasts hbr) hlt
      have hz : szMinsD ⟨op, fa, fb, fc, fn⟩ ≤ 1048576 := Nat.le_trans (szS_mem (List.mem_of_getElem? hx)) HS.out.1
      have HX := Lib.hid (And.intro hx (And.intro hR hz))
      clear hx hR hz
      go_wp2_with fail
      refine (toMins_any _ ⟨op, fa, fb, fc, fn⟩ wr HX.out.2.1 HX.out.2.2).mono ?_
      rintro e w2 ⟨cs', rfl, hO, hb2⟩
      have hO0 := hO
      obtain ⟨_, rfl⟩ := hO0
      have hfill := HD.out
      have hkl : (xs.take k).length = k := by have := HS.out.2; rw [List.length_take]; omega
      have hz0 : w2.cell? ⟨w.heap.size, k * 5, none⟩ = some _ := (hfill.there hb2 hkl hlt (j := 0) rfl).1
      have hy0 : w2.frozen? ⟨w.heap.size, k * 5, none⟩ = false := (hfill.there hb2 hkl hlt (j := 0) rfl).2
      have hz1 : w2.cell? ⟨w.heap.size, k * 5 + 1, none⟩ = some _ := (hfill.there hb2 hkl hlt (j := 1) rfl).1
      have hy1 : w2.frozen? ⟨w.heap.size, k * 5 + 1, none⟩ = false := (hfill.there hb2 hkl hlt (j := 1) rfl).2
      have hz2 : w2.cell? ⟨w.heap.size, k * 5 + 2, none⟩ = some _ := (hfill.there hb2 hkl hlt (j := 2) rfl).1
      have hy2 : w2.frozen? ⟨w.heap.size, k * 5 + 2, none⟩ = false := (hfill.there hb2 hkl hlt (j := 2) rfl).2
      have hz3 : w2.cell? ⟨w.heap.size, k * 5 + 3, none⟩ = some _ := (hfill.there hb2 hkl hlt (j := 3) rfl).1
      have hy3 : w2.frozen? ⟨w.heap.size, k * 5 + 3, none⟩ = false := (hfill.there hb2 hkl hlt (j := 3) rfl).2
      have hz4 : w2.cell? ⟨w.heap.size, k * 5 + 4, none⟩ = some _ := (hfill.there hb2 hkl hlt (j := 4) rfl).1
      have hy4 : w2.frozen? ⟨w.heap.size, k * 5 + 4, none⟩ = false := (hfill.there hb2 hkl hlt (j := 4) rfl).2
      have hput := hfill.put minsO_keeps (by omega) hb2 (Nat.le_refl _) hO rfl
      rw [hkl] at hput
      simp only [World.setCells, Nat.add_assoc, Nat.reduceAdd] at hput
      have HP := Lib.hid hput
      have hbr2 : Below w.heap.size w w2 := hbr.trans (hb2.mono hbr.size)
      clear hput hfill hkl hO hb2 hbr HD
      go_wp2
      go_roundw
      case rel => exact ⟨k + 1, by omega, by go_num, hbr2.trans (HP.out.2.below hbr2.size (fun j hj => by omega)), Lib.hid (by rw [take_succ_of HX.out.1]; simp only [World.size_setCell]; exact HP.out.1)⟩
      case measure => simp [intOf]; omega
    · obtain rfl : k = len := by omega
      go_wp2
      go_ret
      have hd := HD.out
      rw [List.take_of_length_le (by have := HS.out.2; omega)] at hd
      exact ⟨_, _, rfl, hd.done HS.out.2, hbr⟩

set_option maxHeartbeats 400000 in
theorem toMfn_any (cs : List Value) (x : MfnD) (w : World) (hR : MfnR w cs x) (hs : szMfnD x ≤ 1048576) :
    Calls Tryd.prog 46 #[.agg cs.toArray] w fun e w' => ∃ cs', e = .returned (.agg cs'.toArray) ∧ MfnO w.heap.size w'.heap.size w' cs' x ∧ Below w.heap.size w w' := by
  obtain ⟨ins_a, ins_c, rfl, ⟨ins_m, ins_r⟩⟩ := hR
  unfold szMfnD at hs
  obtain ⟨params, slots, ins⟩ := x
  simp only at hs
  have hs_ins : szS szMinsD ins ≤ 1048576 := by omega
  clear hs ins_m
  go_enter Tryd.func46, Tryd.ntmps46
  go_wp2_with fail
  have HH0 := three_blocks w (.cells #[.int .i64 params, .int .i64 slots, .slice ins_a ins.length ins_c] 86) (.cells #[.int .i64 0, .int .i64 0, .slice none 0 0] 32) (.cells #[.int .i64 params, .int .i64 slots, .slice none 0 0] 32)
  generalize (((w.alloc (.cells #[.int .i64 params, .int .i64 slots, .slice ins_a ins.length ins_c] 86)).alloc (.cells #[.int .i64 0, .int .i64 0, .slice none 0 0] 32)).alloc (.cells #[.int .i64 params, .int .i64 slots, .slice none 0 0] 32)) = W0 at HH0 ⊢
  obtain ⟨ht0, hn0, hb0⟩ := HH0
  have HN0 := Lib.hid hn0
  refine (toMinsS_any ins_a ins.length ins_c ins W0 (ins_r.later minsR_lasts hb0) hs_ins).mono ?_
  rintro e w1 ⟨ins_a9, ins_c9, rfl, ins_o, hx1⟩
  have hq1 := ht0.later hx1 (by omega)
  have hm1 : w.heap.size + 3 ≤ w1.heap.size := by have := hx1.size; omega
  have hd1 : Below w.heap.size w w1 := hb0.trans (hx1.mono (by omega))
  have hT1 : Turned (fun k => k = w.heap.size + 1 ∨ k = w.heap.size + 2) W0 w1 := turned_of_below hx1 (fun k h1 h2 => by omega)
  have hU0_0 : w1.cell? ⟨w.heap.size + 2, 0, none⟩ = some (.int .i64 params) := cell_of_row w1 (w.heap.size + 2) 0 _ _ _ hq1.u
  have hF0_0 := (frozen_of_row w1 (w.heap.size + 2) 0 _ _ hq1.u)
  have hZ0_0 : w1.cell? ⟨w.heap.size + 1, 0, none⟩ = some (.int .i64 0) := cell_of_row w1 (w.heap.size + 1) 0 _ _ _ hq1.z
  have hG0_0 := (frozen_of_row w1 (w.heap.size + 1) 0 _ _ hq1.z)
  have hU0_1 : w1.cell? ⟨w.heap.size + 2, 1, none⟩ = some (.int .i64 slots) := cell_of_row w1 (w.heap.size + 2) 1 _ _ _ hq1.u
  have hF0_1 := (frozen_of_row w1 (w.heap.size + 2) 1 _ _ hq1.u)
  have hZ0_1 : w1.cell? ⟨w.heap.size + 1, 1, none⟩ = some (.int .i64 0) := cell_of_row w1 (w.heap.size + 1) 1 _ _ _ hq1.z
  have hG0_1 := (frozen_of_row w1 (w.heap.size + 1) 1 _ _ hq1.z)
  have hU0_2 : w1.cell? ⟨w.heap.size + 2, 2, none⟩ = some (.slice none 0 0) := cell_of_row w1 (w.heap.size + 2) 2 _ _ _ hq1.u
  have hF0_2 := (frozen_of_row w1 (w.heap.size + 2) 2 _ _ hq1.u)
  have hZ0_2 : w1.cell? ⟨w.heap.size + 1, 2, none⟩ = some (.slice none 0 0) := cell_of_row w1 (w.heap.size + 1) 2 _ _ _ hq1.z
  have hG0_2 := (frozen_of_row w1 (w.heap.size + 1) 2 _ _ hq1.z)
  have HH1 := Three.put [.slice ins_a9 ins.length ins_c9] 2 (A := [.int .i64 params, .int .i64 slots]) (B := [.slice none 0 0]) (C := []) hq1 rfl rfl
  have HS1 := Lib.hid (And.intro HH1 (And.intro (heap_setCells_size (g := w.heap.size + 2) [.slice ins_a9 ins.length ins_c9] w1 2) (turned_setCells (g := w.heap.size + 2) [.slice ins_a9 ins.length ins_c9] w1 2)))
  have HO1 := Lib.hid (And.intro ins_o (And.intro hT1 (And.intro hm1 hd1)))
  clear HH1 hq1 ins_o hT1 hx1 hm1 hd1 hb0 ht0 hn0
  go_wp2
  have hF : ((w1.setCells (w.heap.size + 2) 2 [.slice ins_a9 ins.length ins_c9]).setCells (w.heap.size + 1) 0 [.int .i64 params, .int .i64 slots, .slice ins_a9 ins.length ins_c9]).heap[w.heap.size + 1]? = some (.cells [.int .i64 params, .int .i64 slots, .slice ins_a9 ins.length ins_c9].toArray 32 (0, 0)) := heap_setCells_mid (A := []) (B := [.int .i64 0, .int .i64 0, .slice none 0 0]) (C := []) rfl rfl HS1.out.1.z
  have hTm : Turned (fun k => k = w.heap.size + 1 ∨ k = w.heap.size + 2) w1 ((w1.setCells (w.heap.size + 2) 2 [.slice ins_a9 ins.length ins_c9]).setCells (w.heap.size + 1) 0 [.int .i64 params, .int .i64 slots, .slice ins_a9 ins.length ins_c9]) := (HS1.out.2.2.mono (fun k hk => .inr hk)).trans ((turned_setCells _ _ _).mono (fun k hk => .inl hk))
  have hsz : ((w1.setCells (w.heap.size + 2) 2 [.slice ins_a9 ins.length ins_c9]).setCells (w.heap.size + 1) 0 [.int .i64 params, .int .i64 slots, .slice ins_a9 ins.length ins_c9]).heap.size = w1.heap.size := (heap_setCells_size _ _ _).trans (heap_setCells_size _ _ _)
  have ho0 := HO1.out.1.turned minsO_keeps hTm (fun k h1 h2 h3 => by have := HN0.out; omega)
  have hbF : Below w.heap.size w ((w1.setCells (w.heap.size + 2) 2 [.slice ins_a9 ins.length ins_c9]).setCells (w.heap.size + 1) 0 [.int .i64 params, .int .i64 slots, .slice ins_a9 ins.length ins_c9]) := HO1.out.2.2.2.trans (hTm.below (by have := HO1.out.2.2.1; omega) (fun k hk => by omega))
  have hres : MfnO w.heap.size ((w1.setCells (w.heap.size + 2) 2 [.slice ins_a9 ins.length ins_c9]).setCells (w.heap.size + 1) 0 [.int .i64 params, .int .i64 slots, .slice ins_a9 ins.length ins_c9]).heap.size ((w1.setCells (w.heap.size + 2) 2 [.slice ins_a9 ins.length ins_c9]).setCells (w.heap.size + 1) 0 [.int .i64 params, .int .i64 slots, .slice ins_a9 ins.length ins_c9]) [.int .i64 params, .int .i64 slots, .slice ins_a9 ins.length ins_c9] ⟨params, slots, ins⟩ := by
    rw [hsz]
    exact ⟨ins_a9, ins_c9, rfl, ho0.wide minsO_keeps (by have := HN0.out; omega) (Nat.le_refl _)⟩
  refine bodyPost_ret (results_cell_row rfl _ _ (w.heap.size + 1) 32 #[.int .i64 params, .int .i64 slots, .slice ins_a9 ins.length ins_c9] (0, 0) _ rfl ?_ Tryd.underlying32 rfl (by kernel_rfl)) rfl ⟨_, rfl, hres, hbF⟩
  exact hF

theorem info_Mfn : (Tryd.prog.info? 32).map (fun i => (i.zero, i.size, i.bytes)) = some (some (.agg #[.int .i64 0, .int .i64 0, .slice none 0 0]), 3, 40) := by kernel_rfl
theorem und_MfnS : Tryd.prog.underlying 23 = some (.slice 32) := by kernel_rfl
set_option maxHeartbeats 1000000 in
theorem toMfnS_any (a : Option Addr) (len cap : Nat) (xs : List MfnD) (w : World) (hin : SliceRd 3 MfnR w a len xs) (hs : szS szMfnD xs ≤ 1048576) :
    Calls Tryd.prog 29 #[.slice a len cap] w fun e w' => ∃ a' c', e = .returned (.slice a' len c') ∧ SliceOwn 3 32 MfnO w.heap.size w'.heap.size w' a' len c' xs ∧ Below w.heap.size w w' := by
  have hlen : len ≤ 1048576 := by have := hin.length; unfold szS at hs; omega
  obtain ⟨i0, hi, hz0, hz1, hz2⟩ := info_parts info_Mfn
  go_enter Tryd.func29, Tryd.ntmps29
  go_wp2_with (at_make; refine wpList_make_full _ rfl _ _ 23 rfl w.heap.size 32 i0 (.agg #[.int .i64 0, .int .i64 0, .slice none 0 0]) 3 und_MfnS hi hz0 hz1 _ _ _ _ len rfl rfl rfl rfl (by rw [hz2]; omega) (by unfold maxLen; omega) (Nat.le_refl _) ?_; intro w1 hown hg)
  have hb1 : Below w.heap.size w w1 := (Below.refl _ _).grown hg (Nat.le_refl _) (by simp)
  have hf : SliceFill 3 32 MfnO w.heap.size w1.heap.size w1 len [.int .i64 0, .int .i64 0, .slice none 0 0] [] := SliceFill.start (by rw [← toList_madeCells _ _ (by decide)]; exact hown) rfl (hown.lt w.heap.size rfl).2
  have HF := Lib.hid hf
  have HS := Lib.hid (And.intro hs hin.length)
  clear hown hg hi hz0 hz1 hz2 hf hs
  go_wp2
  go_loopw [4] (fun i wr => ∃ k : Nat, k ≤ len ∧ i = .int .i64 k ∧ Below w.heap.size w wr ∧ Hid (SliceFill 3 32 MfnO w.heap.size wr.heap.size wr len [.int .i64 0, .int .i64 0, .slice none 0 0] (xs.take k))) (fun i _ => len - (intOf i).toNat)
  case atStart => exact ⟨0, Nat.zero_le _, rfl, hb1, Lib.hid (by simpa using HF.out)⟩
  case round =>
    obtain ⟨k, hk, rfl, hbr, HD⟩ := hrel
    clear HF hb1
    by_cases hlt : k < len
    · obtain ⟨b, off, params, slots, ins, ins_a, ins_c, rfl, hx, c0, c1, c2, hR⟩ := mfn_place (hin.later mfnR_lasts hbr) hlt
      have hz : szMfnD ⟨params, slots, ins⟩ ≤ 1048576 := Nat.le_trans (szS_mem (List.mem_of_getElem? hx)) HS.out.1
      have HX := Lib.hid (And.intro hx (And.intro hR hz))
      clear hx hR hz
      go_wp2_with fail
      refine (toMfn_any _ ⟨params, slots, ins⟩ wr HX.out.2.1 HX.out.2.2).mono ?_
      rintro e w2 ⟨cs', rfl, hO, hb2⟩
      have hO0 := hO
      obtain ⟨ins_a9, ins_c9, rfl, _⟩ := hO0
      have hfill := HD.out
      have hkl : (xs.take k).length = k := by have := HS.out.2; rw [List.length_take]; omega
      have hz0 : w2.cell? ⟨w.heap.size, k * 3, none⟩ = some _ := (hfill.there hb2 hkl hlt (j := 0) rfl).1
      have hy0 : w2.frozen? ⟨w.heap.size, k * 3, none⟩ = false := (hfill.there hb2 hkl hlt (j := 0) rfl).2
      have hz1 : w2.cell? ⟨w.heap.size, k * 3 + 1, none⟩ = some _ := (hfill.there hb2 hkl hlt (j := 1) rfl).1
      have hy1 : w2.frozen? ⟨w.heap.size, k * 3 + 1, none⟩ = false := (hfill.there hb2 hkl hlt (j := 1) rfl).2
      have hz2 : w2.cell? ⟨w.heap.size, k * 3 + 2, none⟩ = some _ := (hfill.there hb2 hkl hlt (j := 2) rfl).1
      have hy2 : w2.frozen? ⟨w.heap.size, k * 3 + 2, none⟩ = false := (hfill.there hb2 hkl hlt (j := 2) rfl).2
      have hput := hfill.put mfnO_keeps (by omega) hb2 (Nat.le_refl _) hO rfl
      rw [hkl] at hput
      simp only [World.setCells, Nat.add_assoc, Nat.reduceAdd] at hput
      have HP := Lib.hid hput
      have hbr2 : Below w.heap.size w w2 := hbr.trans (hb2.mono hbr.size)
      clear hput hfill hkl hO hb2 hbr HD
      go_wp2
      go_roundw
      case rel => exact ⟨k + 1, by omega, by go_num, hbr2.trans (HP.out.2.below hbr2.size (fun j hj => by omega)), Lib.hid (by rw [take_succ_of HX.out.1]; simp only [World.size_setCell]; exact HP.out.1)⟩
      case measure => simp [intOf]; omega
    · obtain rfl : k = len := by omega
      go_wp2
      go_ret
      have hd := HD.out
      rw [List.take_of_length_le (by have := HS.out.2; omega)] at hd
      exact ⟨_, _, rfl, hd.done HS.out.2, hbr⟩

set_option maxHeartbeats 400000 in
theorem toMach_any (cs : List Value) (x : MachD) (w : World) (hR : MachR w cs x) (hs : szMachD x ≤ 1048576) :
    Calls Tryd.prog 15 #[.agg cs.toArray] w fun e w' => ∃ cs', e = .returned (.agg cs'.toArray) ∧ MachO w.heap.size w'.heap.size w' cs' x ∧ Below w.heap.size w w' := by
  obtain ⟨fns_a, fns_c, rfl, ⟨fns_m, fns_r⟩⟩ := hR
  unfold szMachD at hs
  obtain ⟨fns⟩ := x
  simp only at hs
  have hs_fns : szS szMfnD fns ≤ 1048576 := by omega
  clear hs fns_m
  go_enter Tryd.func15, Tryd.ntmps15
  go_wp2_with fail
  have HH0 := three_blocks w (.cells #[.slice fns_a fns.length fns_c] 35) (.cells #[.slice none 0 0] 25) (.cells #[.slice none 0 0] 25)
  generalize (((w.alloc (.cells #[.slice fns_a fns.length fns_c] 35)).alloc (.cells #[.slice none 0 0] 25)).alloc (.cells #[.slice none 0 0] 25)) = W0 at HH0 ⊢
  obtain ⟨ht0, hn0, hb0⟩ := HH0
  have HN0 := Lib.hid hn0
  refine (toMfnS_any fns_a fns.length fns_c fns W0 (fns_r.later mfnR_lasts hb0) hs_fns).mono ?_
  rintro e w1 ⟨fns_a9, fns_c9, rfl, fns_o, hx1⟩
  have hq1 := ht0.later hx1 (by omega)
  have hm1 : w.heap.size + 3 ≤ w1.heap.size := by have := hx1.size; omega
  have hd1 : Below w.heap.size w w1 := hb0.trans (hx1.mono (by omega))
  have hT1 : Turned (fun k => k = w.heap.size + 1 ∨ k = w.heap.size + 2) W0 w1 := turned_of_below hx1 (fun k h1 h2 => by omega)
  have hU0_0 : w1.cell? ⟨w.heap.size + 2, 0, none⟩ = some (.slice none 0 0) := cell_of_row w1 (w.heap.size + 2) 0 _ _ _ hq1.u
  have hF0_0 := (frozen_of_row w1 (w.heap.size + 2) 0 _ _ hq1.u)
  have hZ0_0 : w1.cell? ⟨w.heap.size + 1, 0, none⟩ = some (.slice none 0 0) := cell_of_row w1 (w.heap.size + 1) 0 _ _ _ hq1.z
  have hG0_0 := (frozen_of_row w1 (w.heap.size + 1) 0 _ _ hq1.z)
  have HH1 := Three.put [.slice fns_a9 fns.length fns_c9] 0 (A := []) (B := [.slice none 0 0]) (C := []) hq1 rfl rfl
  have HS1 := Lib.hid (And.intro HH1 (And.intro (heap_setCells_size (g := w.heap.size + 2) [.slice fns_a9 fns.length fns_c9] w1 0) (turned_setCells (g := w.heap.size + 2) [.slice fns_a9 fns.length fns_c9] w1 0)))
  have HO1 := Lib.hid (And.intro fns_o (And.intro hT1 (And.intro hm1 hd1)))
  clear HH1 hq1 fns_o hT1 hx1 hm1 hd1 hb0 ht0 hn0
  go_wp2
  have hF : ((w1.setCells (w.heap.size + 2) 0 [.slice fns_a9 fns.length fns_c9]).setCells (w.heap.size + 1) 0 [.slice fns_a9 fns.length fns_c9]).heap[w.heap.size + 1]? = some (.cells [.slice fns_a9 fns.length fns_c9].toArray 25 (0, 0)) := heap_setCells_mid (A := []) (B := [.slice none 0 0]) (C := []) rfl rfl HS1.out.1.z
  have hTm : Turned (fun k => k = w.heap.size + 1 ∨ k = w.heap.size + 2) w1 ((w1.setCells (w.heap.size + 2) 0 [.slice fns_a9 fns.length fns_c9]).setCells (w.heap.size + 1) 0 [.slice fns_a9 fns.length fns_c9]) := (HS1.out.2.2.mono (fun k hk => .inr hk)).trans ((turned_setCells _ _ _).mono (fun k hk => .inl hk))
  have hsz : ((w1.setCells (w.heap.size + 2) 0 [.slice fns_a9 fns.length fns_c9]).setCells (w.heap.size + 1) 0 [.slice fns_a9 fns.length fns_c9]).heap.size = w1.heap.size := (heap_setCells_size _ _ _).trans (heap_setCells_size _ _ _)
  have ho0 := HO1.out.1.turned mfnO_keeps hTm (fun k h1 h2 h3 => by have := HN0.out; omega)
  have hbF : Below w.heap.size w ((w1.setCells (w.heap.size + 2) 0 [.slice fns_a9 fns.length fns_c9]).setCells (w.heap.size + 1) 0 [.slice fns_a9 fns.length fns_c9]) := HO1.out.2.2.2.trans (hTm.below (by have := HO1.out.2.2.1; omega) (fun k hk => by omega))
  have hres : MachO w.heap.size ((w1.setCells (w.heap.size + 2) 0 [.slice fns_a9 fns.length fns_c9]).setCells (w.heap.size + 1) 0 [.slice fns_a9 fns.length fns_c9]).heap.size ((w1.setCells (w.heap.size + 2) 0 [.slice fns_a9 fns.length fns_c9]).setCells (w.heap.size + 1) 0 [.slice fns_a9 fns.length fns_c9]) [.slice fns_a9 fns.length fns_c9] ⟨fns⟩ := by
    rw [hsz]
    exact ⟨fns_a9, fns_c9, rfl, ho0.wide mfnO_keeps (by have := HN0.out; omega) (Nat.le_refl _)⟩
  refine bodyPost_ret (results_cell_row rfl _ _ (w.heap.size + 1) 25 #[.slice fns_a9 fns.length fns_c9] (0, 0) _ rfl ?_ Tryd.underlying25 rfl (by kernel_rfl)) rfl ⟨_, rfl, hres, hbF⟩
  exact hF


end Go.Proofs.YtdkafajmhgfkoaaDoor
