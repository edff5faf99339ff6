
/-
  The laws' copies of data of the group Unit.
-/
import Derived.Test.YtonlidgmfmgcmaaGreatUnitOwn
namespace Go.Proofs.YtonlidgmfmgcmaaGreat
open Go.RowKit

theorem toIntS_own (a : Option Addr) (len cap : Nat) (xs : List Int) (w : World) (h : IntsRd w a len xs) (hs : len ≤ 1099511627776) :
    Calls Tryz.prog 99 #[.slice a len cap] w fun e w' => ∃ a' c', e = .returned (.slice a' len c') ∧ IntsOwn 3 w.heap.size w'.heap.size w' a' len c' xs ∧ Below w.heap.size w w' :=
  (toIntS_any a len cap xs w h hs).mono (by
    rintro e w' ⟨a', c', rfl, hown, hb⟩
    exact ⟨a', c', rfl, ⟨hb.size, hown, fun k hk => (hown.lt k hk).2⟩, hb⟩)
set_option maxHeartbeats 400000 in
theorem toPhi_any (cs : List Value) (x : PhiD) (w : World) (hR : PhiR w cs x) (hs : szPhiD x ≤ 1048576) :
    Calls Tryz.prog 106 #[.agg cs.toArray] w fun e w' => ∃ cs', e = .returned (.agg cs'.toArray) ∧ PhiO w.heap.size w'.heap.size w' cs' x ∧ Below w.heap.size w w' := by
  obtain ⟨args_a, args_c, rfl, ⟨args_m, args_r⟩⟩ := hR
  unfold szPhiD at hs
  obtain ⟨to, args⟩ := x
  simp only at hs
  have hs_args : args.length ≤ 1048576 := by omega
  clear hs args_m
  go_enter Tryz.func106, Tryz.ntmps106
  go_wp2_with fail
  have HH0 := three_blocks w (.cells #[.int .i64 to, .slice args_a args.length args_c] 123) (.cells #[.int .i64 0, .slice none 0 0] 83) (.cells #[.int .i64 to, .slice none 0 0] 83)
  generalize (((w.alloc (.cells #[.int .i64 to, .slice args_a args.length args_c] 123)).alloc (.cells #[.int .i64 0, .slice none 0 0] 83)).alloc (.cells #[.int .i64 to, .slice none 0 0] 83)) = W0 at HH0 ⊢
  obtain ⟨ht0, hn0, hb0⟩ := HH0
  have HN0 := Lib.hid hn0
  refine (toIntS_own args_a args.length args_c args W0 (args_r.later hb0) (by omega)).mono ?_
  rintro e w1 ⟨args_a9, args_c9, rfl, args_o, hx1⟩
  have hq1 := ht0.later hx1 (by omega)
  have hm1 : w.heap.size + 3 ≤ w1.heap.size := by have := hx1.size; omega
  have hd1 : Below w.heap.size w w1 := hb0.trans (hx1.mono (by omega))
  have hT1 : Turned (fun k => k = w.heap.size + 1 ∨ k = w.heap.size + 2) W0 w1 := turned_of_below hx1 (fun k h1 h2 => by omega)
  have hU0_0 : w1.cell? ⟨w.heap.size + 2, 0, none⟩ = some (.int .i64 to) := cell_of_row w1 (w.heap.size + 2) 0 _ _ _ hq1.u
  have hF0_0 := (frozen_of_row w1 (w.heap.size + 2) 0 _ _ hq1.u)
  have hZ0_0 : w1.cell? ⟨w.heap.size + 1, 0, none⟩ = some (.int .i64 0) := cell_of_row w1 (w.heap.size + 1) 0 _ _ _ hq1.z
  have hG0_0 := (frozen_of_row w1 (w.heap.size + 1) 0 _ _ hq1.z)
  have hU0_1 : w1.cell? ⟨w.heap.size + 2, 1, none⟩ = some (.slice none 0 0) := cell_of_row w1 (w.heap.size + 2) 1 _ _ _ hq1.u
  have hF0_1 := (frozen_of_row w1 (w.heap.size + 2) 1 _ _ hq1.u)
  have hZ0_1 : w1.cell? ⟨w.heap.size + 1, 1, none⟩ = some (.slice none 0 0) := cell_of_row w1 (w.heap.size + 1) 1 _ _ _ hq1.z
  have hG0_1 := (frozen_of_row w1 (w.heap.size + 1) 1 _ _ hq1.z)
  have HH1 := Three.put [.slice args_a9 args.length args_c9] 1 (A := [.int .i64 to]) (B := [.slice none 0 0]) (C := []) hq1 rfl rfl
  have HS1 := Lib.hid (And.intro HH1 (And.intro (heap_setCells_size (g := w.heap.size + 2) [.slice args_a9 args.length args_c9] w1 1) (turned_setCells (g := w.heap.size + 2) [.slice args_a9 args.length args_c9] w1 1)))
  have HO1 := Lib.hid (And.intro args_o (And.intro hT1 (And.intro hm1 hd1)))
  clear HH1 hq1 args_o hT1 hx1 hm1 hd1 hb0 ht0 hn0
  go_wp2
  have hF : ((w1.setCells (w.heap.size + 2) 1 [.slice args_a9 args.length args_c9]).setCells (w.heap.size + 1) 0 [.int .i64 to, .slice args_a9 args.length args_c9]).heap[w.heap.size + 1]? = some (.cells [.int .i64 to, .slice args_a9 args.length args_c9].toArray 83 (0, 0)) := heap_setCells_mid (A := []) (B := [.int .i64 0, .slice none 0 0]) (C := []) rfl rfl HS1.out.1.z
  have hTm : Turned (fun k => k = w.heap.size + 1 ∨ k = w.heap.size + 2) w1 ((w1.setCells (w.heap.size + 2) 1 [.slice args_a9 args.length args_c9]).setCells (w.heap.size + 1) 0 [.int .i64 to, .slice args_a9 args.length args_c9]) := (HS1.out.2.2.mono (fun k hk => .inr hk)).trans ((turned_setCells _ _ _).mono (fun k hk => .inl hk))
  have hsz : ((w1.setCells (w.heap.size + 2) 1 [.slice args_a9 args.length args_c9]).setCells (w.heap.size + 1) 0 [.int .i64 to, .slice args_a9 args.length args_c9]).heap.size = w1.heap.size := (heap_setCells_size _ _ _).trans (heap_setCells_size _ _ _)
  have ho0 := HO1.out.1.turned hTm (fun k h1 h2 h3 => by have := HN0.out; omega)
  have hbF : Below w.heap.size w ((w1.setCells (w.heap.size + 2) 1 [.slice args_a9 args.length args_c9]).setCells (w.heap.size + 1) 0 [.int .i64 to, .slice args_a9 args.length args_c9]) := HO1.out.2.2.2.trans (hTm.below (by have := HO1.out.2.2.1; omega) (fun k hk => by omega))
  have hres : PhiO w.heap.size ((w1.setCells (w.heap.size + 2) 1 [.slice args_a9 args.length args_c9]).setCells (w.heap.size + 1) 0 [.int .i64 to, .slice args_a9 args.length args_c9]).heap.size ((w1.setCells (w.heap.size + 2) 1 [.slice args_a9 args.length args_c9]).setCells (w.heap.size + 1) 0 [.int .i64 to, .slice args_a9 args.length args_c9]) [.int .i64 to, .slice args_a9 args.length args_c9] ⟨to, args⟩ := by
    rw [hsz]
    exact ⟨args_a9, args_c9, rfl, ho0.wide (by have := HN0.out; omega) (Nat.le_refl _)⟩
  refine bodyPost_ret (results_cell_row rfl _ _ (w.heap.size + 1) 83 #[.int .i64 to, .slice args_a9 args.length args_c9] (0, 0) _ rfl ?_ Tryz.underlying83 rfl (by kernel_rfl)) rfl ⟨_, rfl, hres, hbF⟩
  exact hF

theorem info_Phi : (Tryz.prog.info? 83).map (fun i => (i.zero, i.size, i.bytes)) = some (some (.agg #[.int .i64 0, .slice none 0 0]), 2, 32) := by kernel_rfl
theorem und_PhiS : Tryz.prog.underlying 46 = some (.slice 83) := by kernel_rfl
set_option maxHeartbeats 1000000 in
theorem toPhiS_any (a : Option Addr) (len cap : Nat) (xs : List PhiD) (w : World) (hin : SliceRd 2 PhiR w a len xs) (hs : szS szPhiD xs ≤ 1048576) :
    Calls Tryz.prog 97 #[.slice a len cap] w fun e w' => ∃ a' c', e = .returned (.slice a' len c') ∧ SliceOwn 2 83 PhiO w.heap.size w'.heap.size w' a' len c' xs ∧ Below w.heap.size w w' := by
  have hlen : len ≤ 1048576 := by have := hin.length; unfold szS at hs; omega
  obtain ⟨i0, hi, hz0, hz1, hz2⟩ := info_parts info_Phi
  go_enter Tryz.func97, Tryz.ntmps97
  go_wp2_with (at_make; refine wpList_make_full _ rfl _ _ 46 rfl w.heap.size 83 i0 (.agg #[.int .i64 0, .slice none 0 0]) 2 und_PhiS hi hz0 hz1 _ _ _ _ len rfl rfl rfl rfl (by rw [hz2]; omega) (by unfold maxLen; omega) (Nat.le_refl _) ?_; intro w1 hown hg)
  have hb1 : Below w.heap.size w w1 := (Below.refl _ _).grown hg (Nat.le_refl _) (by simp)
  have hf : SliceFill 2 83 PhiO w.heap.size w1.heap.size w1 len [.int .i64 0, .slice none 0 0] [] := SliceFill.start (by rw [← toList_madeCells _ _ (by decide)]; exact hown) rfl (hown.lt w.heap.size rfl).2
  have HF := Lib.hid hf
  have HS := Lib.hid (And.intro hs hin.length)
  clear hown hg hi hz0 hz1 hz2 hf hs
  go_wp2
  go_loopw [4] (fun i wr => ∃ k : Nat, k ≤ len ∧ i = .int .i64 k ∧ Below w.heap.size w wr ∧ Hid (SliceFill 2 83 PhiO w.heap.size wr.heap.size wr len [.int .i64 0, .slice none 0 0] (xs.take k))) (fun i _ => len - (intOf i).toNat)
  case atStart => exact ⟨0, Nat.zero_le _, rfl, hb1, Lib.hid (by simpa using HF.out)⟩
  case round =>
    obtain ⟨k, hk, rfl, hbr, HD⟩ := hrel
    clear HF hb1
    by_cases hlt : k < len
    · obtain ⟨b, off, to, args, args_a, args_c, rfl, hx, c0, c1, hR⟩ := phi_place (hin.later phiR_lasts hbr) hlt
      have hz : szPhiD ⟨to, args⟩ ≤ 1048576 := Nat.le_trans (szS_mem (List.mem_of_getElem? hx)) HS.out.1
      have HX := Lib.hid (And.intro hx (And.intro hR hz))
      clear hx hR hz
      go_wp2_with fail
      refine (toPhi_any _ ⟨to, args⟩ wr HX.out.2.1 HX.out.2.2).mono ?_
      rintro e w2 ⟨cs', rfl, hO, hb2⟩
      have hO0 := hO
      obtain ⟨args_a9, args_c9, rfl, _⟩ := hO0
      have hfill := HD.out
      have hkl : (xs.take k).length = k := by have := HS.out.2; rw [List.length_take]; omega
      have hz0 : w2.cell? ⟨w.heap.size, k * 2, none⟩ = some _ := (hfill.there hb2 hkl hlt (j := 0) rfl).1
      have hy0 : w2.frozen? ⟨w.heap.size, k * 2, none⟩ = false := (hfill.there hb2 hkl hlt (j := 0) rfl).2
      have hz1 : w2.cell? ⟨w.heap.size, k * 2 + 1, none⟩ = some _ := (hfill.there hb2 hkl hlt (j := 1) rfl).1
      have hy1 : w2.frozen? ⟨w.heap.size, k * 2 + 1, none⟩ = false := (hfill.there hb2 hkl hlt (j := 1) rfl).2
      have hput := hfill.put phiO_keeps (by omega) hb2 (Nat.le_refl _) hO rfl
      rw [hkl] at hput
      simp only [World.setCells] at hput
      have HP := Lib.hid hput
      have hbr2 : Below w.heap.size w w2 := hbr.trans (hb2.mono hbr.size)
      clear hput hfill hkl hO hb2 hbr HD
      go_wp2
      go_roundw
      case rel => exact ⟨k + 1, by omega, by go_num, hbr2.trans (HP.out.2.below hbr2.size (fun j hj => by omega)), Lib.hid (by rw [take_succ_of HX.out.1]; simp only [World.size_setCell]; exact HP.out.1)⟩
      case measure => simp [intOf]; omega
    · obtain rfl : k = len := by omega
      go_wp2
      go_ret
      have hd := HD.out
      rw [List.take_of_length_le (by have := HS.out.2; omega)] at hd
      exact ⟨_, _, rfl, hd.done HS.out.2, hbr⟩

set_option maxHeartbeats 400000 in
theorem toIns_any (cs : List Value) (x : InsD) (w : World) (hR : InsR w cs x) (hs : szInsD x ≤ 1048576) :
    Calls Tryz.prog 107 #[.agg cs.toArray] w fun e w' => ∃ cs', e = .returned (.agg cs'.toArray) ∧ InsO w.heap.size w'.heap.size w' cs' x ∧ Below w.heap.size w w' := by
  obtain ⟨args_a, args_c, rfl, ⟨args_m, args_r⟩⟩ := hR
  unfold szInsD at hs
  obtain ⟨op, to, args, num⟩ := x
  simp only at hs
  have hs_args : args.length ≤ 1048576 := by omega
  clear hs args_m
  go_enter Tryz.func107, Tryz.ntmps107
  go_wp2_with fail
  have HH0 := three_blocks w (.cells #[.int .i64 op, .int .i64 to, .slice args_a args.length args_c, .int .i64 num] 125) (.cells #[.int .i64 0, .int .i64 0, .slice none 0 0, .int .i64 0] 45) (.cells #[.int .i64 op, .int .i64 to, .slice none 0 0, .int .i64 0] 45)
  generalize (((w.alloc (.cells #[.int .i64 op, .int .i64 to, .slice args_a args.length args_c, .int .i64 num] 125)).alloc (.cells #[.int .i64 0, .int .i64 0, .slice none 0 0, .int .i64 0] 45)).alloc (.cells #[.int .i64 op, .int .i64 to, .slice none 0 0, .int .i64 0] 45)) = W0 at HH0 ⊢
  obtain ⟨ht0, hn0, hb0⟩ := HH0
  have HN0 := Lib.hid hn0
  refine (toIntS_own args_a args.length args_c args W0 (args_r.later hb0) (by omega)).mono ?_
  rintro e w1 ⟨args_a9, args_c9, rfl, args_o, hx1⟩
  have hq1 := ht0.later hx1 (by omega)
  have hm1 : w.heap.size + 3 ≤ w1.heap.size := by have := hx1.size; omega
  have hd1 : Below w.heap.size w w1 := hb0.trans (hx1.mono (by omega))
  have hT1 : Turned (fun k => k = w.heap.size + 1 ∨ k = w.heap.size + 2) W0 w1 := turned_of_below hx1 (fun k h1 h2 => by omega)
  have hU0_0 : w1.cell? ⟨w.heap.size + 2, 0, none⟩ = some (.int .i64 op) := cell_of_row w1 (w.heap.size + 2) 0 _ _ _ hq1.u
  have hF0_0 := (frozen_of_row w1 (w.heap.size + 2) 0 _ _ hq1.u)
  have hZ0_0 : w1.cell? ⟨w.heap.size + 1, 0, none⟩ = some (.int .i64 0) := cell_of_row w1 (w.heap.size + 1) 0 _ _ _ hq1.z
  have hG0_0 := (frozen_of_row w1 (w.heap.size + 1) 0 _ _ hq1.z)
  have hU0_1 : w1.cell? ⟨w.heap.size + 2, 1, none⟩ = some (.int .i64 to) := cell_of_row w1 (w.heap.size + 2) 1 _ _ _ hq1.u
  have hF0_1 := (frozen_of_row w1 (w.heap.size + 2) 1 _ _ hq1.u)
  have hZ0_1 : w1.cell? ⟨w.heap.size + 1, 1, none⟩ = some (.int .i64 0) := cell_of_row w1 (w.heap.size + 1) 1 _ _ _ hq1.z
  have hG0_1 := (frozen_of_row w1 (w.heap.size + 1) 1 _ _ hq1.z)
  have hU0_2 : w1.cell? ⟨w.heap.size + 2, 2, none⟩ = some (.slice none 0 0) := cell_of_row w1 (w.heap.size + 2) 2 _ _ _ hq1.u
  have hF0_2 := (frozen_of_row w1 (w.heap.size + 2) 2 _ _ hq1.u)
  have hZ0_2 : w1.cell? ⟨w.heap.size + 1, 2, none⟩ = some (.slice none 0 0) := cell_of_row w1 (w.heap.size + 1) 2 _ _ _ hq1.z
  have hG0_2 := (frozen_of_row w1 (w.heap.size + 1) 2 _ _ hq1.z)
  have hP0_3 : w1.cell? ⟨w.heap.size, 3, none⟩ = some (.int .i64 num) := cell_of_row w1 w.heap.size 3 _ _ _ hq1.p
  have hU0_3 : w1.cell? ⟨w.heap.size + 2, 3, none⟩ = some (.int .i64 0) := cell_of_row w1 (w.heap.size + 2) 3 _ _ _ hq1.u
  have hF0_3 := (frozen_of_row w1 (w.heap.size + 2) 3 _ _ hq1.u)
  have hZ0_3 : w1.cell? ⟨w.heap.size + 1, 3, none⟩ = some (.int .i64 0) := cell_of_row w1 (w.heap.size + 1) 3 _ _ _ hq1.z
  have hG0_3 := (frozen_of_row w1 (w.heap.size + 1) 3 _ _ hq1.z)
  have HH1 := Three.put [.slice args_a9 args.length args_c9, .int .i64 num] 2 (A := [.int .i64 op, .int .i64 to]) (B := [.slice none 0 0, .int .i64 0]) (C := []) hq1 rfl rfl
  have HS1 := Lib.hid (And.intro HH1 (And.intro (heap_setCells_size (g := w.heap.size + 2) [.slice args_a9 args.length args_c9, .int .i64 num] w1 2) (turned_setCells (g := w.heap.size + 2) [.slice args_a9 args.length args_c9, .int .i64 num] w1 2)))
  have HO1 := Lib.hid (And.intro args_o (And.intro hT1 (And.intro hm1 hd1)))
  clear HH1 hq1 args_o hT1 hx1 hm1 hd1 hb0 ht0 hn0
  go_wp2
  have hF : ((w1.setCells (w.heap.size + 2) 2 [.slice args_a9 args.length args_c9, .int .i64 num]).setCells (w.heap.size + 1) 0 [.int .i64 op, .int .i64 to, .slice args_a9 args.length args_c9, .int .i64 num]).heap[w.heap.size + 1]? = some (.cells [.int .i64 op, .int .i64 to, .slice args_a9 args.length args_c9, .int .i64 num].toArray 45 (0, 0)) := heap_setCells_mid (A := []) (B := [.int .i64 0, .int .i64 0, .slice none 0 0, .int .i64 0]) (C := []) rfl rfl HS1.out.1.z
  have hTm : Turned (fun k => k = w.heap.size + 1 ∨ k = w.heap.size + 2) w1 ((w1.setCells (w.heap.size + 2) 2 [.slice args_a9 args.length args_c9, .int .i64 num]).setCells (w.heap.size + 1) 0 [.int .i64 op, .int .i64 to, .slice args_a9 args.length args_c9, .int .i64 num]) := (HS1.out.2.2.mono (fun k hk => .inr hk)).trans ((turned_setCells _ _ _).mono (fun k hk => .inl hk))
  have hsz : ((w1.setCells (w.heap.size + 2) 2 [.slice args_a9 args.length args_c9, .int .i64 num]).setCells (w.heap.size + 1) 0 [.int .i64 op, .int .i64 to, .slice args_a9 args.length args_c9, .int .i64 num]).heap.size = w1.heap.size := (heap_setCells_size _ _ _).trans (heap_setCells_size _ _ _)
  have ho0 := HO1.out.1.turned hTm (fun k h1 h2 h3 => by have := HN0.out; omega)
  have hbF : Below w.heap.size w ((w1.setCells (w.heap.size + 2) 2 [.slice args_a9 args.length args_c9, .int .i64 num]).setCells (w.heap.size + 1) 0 [.int .i64 op, .int .i64 to, .slice args_a9 args.length args_c9, .int .i64 num]) := HO1.out.2.2.2.trans (hTm.below (by have := HO1.out.2.2.1; omega) (fun k hk => by omega))
  have hres : InsO w.heap.size ((w1.setCells (w.heap.size + 2) 2 [.slice args_a9 args.length args_c9, .int .i64 num]).setCells (w.heap.size + 1) 0 [.int .i64 op, .int .i64 to, .slice args_a9 args.length args_c9, .int .i64 num]).heap.size ((w1.setCells (w.heap.size + 2) 2 [.slice args_a9 args.length args_c9, .int .i64 num]).setCells (w.heap.size + 1) 0 [.int .i64 op, .int .i64 to, .slice args_a9 args.length args_c9, .int .i64 num]) [.int .i64 op, .int .i64 to, .slice args_a9 args.length args_c9, .int .i64 num] ⟨op, to, args, num⟩ := by
    rw [hsz]
    exact ⟨args_a9, args_c9, rfl, ho0.wide (by have := HN0.out; omega) (Nat.le_refl _)⟩
  refine bodyPost_ret (results_cell_row rfl _ _ (w.heap.size + 1) 45 #[.int .i64 op, .int .i64 to, .slice args_a9 args.length args_c9, .int .i64 num] (0, 0) _ rfl ?_ Tryz.underlying45 rfl (by kernel_rfl)) rfl ⟨_, rfl, hres, hbF⟩
  exact hF

theorem info_Ins : (Tryz.prog.info? 45).map (fun i => (i.zero, i.size, i.bytes)) = some (some (.agg #[.int .i64 0, .int .i64 0, .slice none 0 0, .int .i64 0]), 4, 48) := by kernel_rfl
theorem und_InsS : Tryz.prog.underlying 47 = some (.slice 45) := by kernel_rfl
set_option maxHeartbeats 1000000 in
theorem toInsS_any (a : Option Addr) (len cap : Nat) (xs : List InsD) (w : World) (hin : SliceRd 4 InsR w a len xs) (hs : szS szInsD xs ≤ 1048576) :
    Calls Tryz.prog 98 #[.slice a len cap] w fun e w' => ∃ a' c', e = .returned (.slice a' len c') ∧ SliceOwn 4 45 InsO w.heap.size w'.heap.size w' a' len c' xs ∧ Below w.heap.size w w' := by
  have hlen : len ≤ 1048576 := by have := hin.length; unfold szS at hs; omega
  obtain ⟨i0, hi, hz0, hz1, hz2⟩ := info_parts info_Ins
  go_enter Tryz.func98, Tryz.ntmps98
  go_wp2_with (at_make; refine wpList_make_full _ rfl _ _ 47 rfl w.heap.size 45 i0 (.agg #[.int .i64 0, .int .i64 0, .slice none 0 0, .int .i64 0]) 4 und_InsS hi hz0 hz1 _ _ _ _ len rfl rfl rfl rfl (by rw [hz2]; omega) (by unfold maxLen; omega) (Nat.le_refl _) ?_; intro w1 hown hg)
  have hb1 : Below w.heap.size w w1 := (Below.refl _ _).grown hg (Nat.le_refl _) (by simp)
  have hf : SliceFill 4 45 InsO w.heap.size w1.heap.size w1 len [.int .i64 0, .int .i64 0, .slice none 0 0, .int .i64 0] [] := SliceFill.start (by rw [← toList_madeCells _ _ (by decide)]; exact hown) rfl (hown.lt w.heap.size rfl).2
  have HF := Lib.hid hf
  have HS := Lib.hid (And.intro hs hin.length)
  clear hown hg hi hz0 hz1 hz2 hf hs
  go_wp2
  go_loopw [4] (fun i wr => ∃ k : Nat, k ≤ len ∧ i = .int .i64 k ∧ Below w.heap.size w wr ∧ Hid (SliceFill 4 45 InsO w.heap.size wr.heap.size wr len [.int .i64 0, .int .i64 0, .slice none 0 0, .int .i64 0] (xs.take k))) (fun i _ => len - (intOf i).toNat)
  case atStart => exact ⟨0, Nat.zero_le _, rfl, hb1, Lib.hid (by simpa using HF.out)⟩
  case round =>
    obtain ⟨k, hk, rfl, hbr, HD⟩ := hrel
    clear HF hb1
    by_cases hlt : k < len
    · obtain ⟨b, off, op, to, args, num, args_a, args_c, rfl, hx, c0, c1, c2, c3, hR⟩ := ins_place (hin.later insR_lasts hbr) hlt
      have hz : szInsD ⟨op, to, args, num⟩ ≤ 1048576 := Nat.le_trans (szS_mem (List.mem_of_getElem? hx)) HS.out.1
      have HX := Lib.hid (And.intro hx (And.intro hR hz))
      clear hx hR hz
      go_wp2_with fail
      refine (toIns_any _ ⟨op, to, args, num⟩ wr HX.out.2.1 HX.out.2.2).mono ?_
      rintro e w2 ⟨cs', rfl, hO, hb2⟩
      have hO0 := hO
      obtain ⟨args_a9, args_c9, rfl, _⟩ := hO0
      have hfill := HD.out
      have hkl : (xs.take k).length = k := by have := HS.out.2; rw [List.length_take]; omega
      have hz0 : w2.cell? ⟨w.heap.size, k * 4, none⟩ = some _ := (hfill.there hb2 hkl hlt (j := 0) rfl).1
      have hy0 : w2.frozen? ⟨w.heap.size, k * 4, none⟩ = false := (hfill.there hb2 hkl hlt (j := 0) rfl).2
      have hz1 : w2.cell? ⟨w.heap.size, k * 4 + 1, none⟩ = some _ := (hfill.there hb2 hkl hlt (j := 1) rfl).1
      have hy1 : w2.frozen? ⟨w.heap.size, k * 4 + 1, none⟩ = false := (hfill.there hb2 hkl hlt (j := 1) rfl).2
      have hz2 : w2.cell? ⟨w.heap.size, k * 4 + 2, none⟩ = some _ := (hfill.there hb2 hkl hlt (j := 2) rfl).1
      have hy2 : w2.frozen? ⟨w.heap.size, k * 4 + 2, none⟩ = false := (hfill.there hb2 hkl hlt (j := 2) rfl).2
      have hz3 : w2.cell? ⟨w.heap.size, k * 4 + 3, none⟩ = some _ := (hfill.there hb2 hkl hlt (j := 3) rfl).1
      have hy3 : w2.frozen? ⟨w.heap.size, k * 4 + 3, none⟩ = false := (hfill.there hb2 hkl hlt (j := 3) rfl).2
      have hput := hfill.put insO_keeps (by omega) hb2 (Nat.le_refl _) hO rfl
      rw [hkl] at hput
      simp only [World.setCells, Nat.add_assoc, Nat.reduceAdd] at hput
      have HP := Lib.hid hput
      have hbr2 : Below w.heap.size w w2 := hbr.trans (hb2.mono hbr.size)
      clear hput hfill hkl hO hb2 hbr HD
      go_wp2
      go_roundw
      case rel => exact ⟨k + 1, by omega, by go_num, hbr2.trans (HP.out.2.below hbr2.size (fun j hj => by omega)), Lib.hid (by rw [take_succ_of HX.out.1]; simp only [World.size_setCell]; exact HP.out.1)⟩
      case measure => simp [intOf]; omega
    · obtain rfl : k = len := by omega
      go_wp2
      go_ret
      have hd := HD.out
      rw [List.take_of_length_le (by have := HS.out.2; omega)] at hd
      exact ⟨_, _, rfl, hd.done HS.out.2, hbr⟩

set_option maxHeartbeats 400000 in
theorem toBlock_any (cs : List Value) (x : BlockD) (w : World) (hR : BlockR w cs x) (hs : szBlockD x ≤ 1048576) :
    Calls Tryz.prog 82 #[.agg cs.toArray] w fun e w' => ∃ cs', e = .returned (.agg cs'.toArray) ∧ BlockO w.heap.size w'.heap.size w' cs' x ∧ Below w.heap.size w w' := by
  obtain ⟨phis_a, phis_c, ins_a, ins_c, nx_a, nx_c, rfl, ⟨phis_m, phis_r⟩, ⟨ins_m, ins_r⟩, ⟨nx_m, nx_r⟩⟩ := hR
  unfold szBlockD at hs
  obtain ⟨phis, ins, jump, jon, nx⟩ := x
  simp only at hs
  have hs_phis : szS szPhiD phis ≤ 1048576 := by omega
  have hs_ins : szS szInsD ins ≤ 1048576 := by omega
  have hs_nx : nx.length ≤ 1048576 := by omega
  clear hs phis_m ins_m nx_m
  go_enter Tryz.func82, Tryz.ntmps82
  go_wp2_with fail
  have HH0 := three_blocks w (.cells #[.slice phis_a phis.length phis_c, .slice ins_a ins.length ins_c, .int .i64 jump, .int .i64 jon, .slice nx_a nx.length nx_c] 106) (.cells #[.slice none 0 0, .slice none 0 0, .int .i64 0, .int .i64 0, .slice none 0 0] 49) (.cells #[.slice none 0 0, .slice none 0 0, .int .i64 0, .int .i64 0, .slice none 0 0] 49)
  generalize (((w.alloc (.cells #[.slice phis_a phis.length phis_c, .slice ins_a ins.length ins_c, .int .i64 jump, .int .i64 jon, .slice nx_a nx.length nx_c] 106)).alloc (.cells #[.slice none 0 0, .slice none 0 0, .int .i64 0, .int .i64 0, .slice none 0 0] 49)).alloc (.cells #[.slice none 0 0, .slice none 0 0, .int .i64 0, .int .i64 0, .slice none 0 0] 49)) = W0 at HH0 ⊢
  obtain ⟨ht0, hn0, hb0⟩ := HH0
  have HN0 := Lib.hid hn0
  refine (toPhiS_any phis_a phis.length phis_c phis W0 (phis_r.later phiR_lasts hb0) hs_phis).mono ?_
  rintro e w1 ⟨phis_a9, phis_c9, rfl, phis_o, hx1⟩
  have hq1 := ht0.later hx1 (by omega)
  have hm1 : w.heap.size + 3 ≤ w1.heap.size := by have := hx1.size; omega
  have hd1 : Below w.heap.size w w1 := hb0.trans (hx1.mono (by omega))
  have hT1 : Turned (fun k => k = w.heap.size + 1 ∨ k = w.heap.size + 2) W0 w1 := turned_of_below hx1 (fun k h1 h2 => by omega)
  have hU0_0 : w1.cell? ⟨w.heap.size + 2, 0, none⟩ = some (.slice none 0 0) := cell_of_row w1 (w.heap.size + 2) 0 _ _ _ hq1.u
  have hF0_0 := (frozen_of_row w1 (w.heap.size + 2) 0 _ _ hq1.u)
  have hP0_1 : w1.cell? ⟨w.heap.size, 1, none⟩ = some (.slice ins_a ins.length ins_c) := cell_of_row w1 w.heap.size 1 _ _ _ hq1.p
  have hU0_1 : w1.cell? ⟨w.heap.size + 2, 1, none⟩ = some (.slice none 0 0) := cell_of_row w1 (w.heap.size + 2) 1 _ _ _ hq1.u
  have hF0_1 := (frozen_of_row w1 (w.heap.size + 2) 1 _ _ hq1.u)
  have hP0_2 : w1.cell? ⟨w.heap.size, 2, none⟩ = some (.int .i64 jump) := cell_of_row w1 w.heap.size 2 _ _ _ hq1.p
  have hU0_2 : w1.cell? ⟨w.heap.size + 2, 2, none⟩ = some (.int .i64 0) := cell_of_row w1 (w.heap.size + 2) 2 _ _ _ hq1.u
  have hF0_2 := (frozen_of_row w1 (w.heap.size + 2) 2 _ _ hq1.u)
  have hP0_3 : w1.cell? ⟨w.heap.size, 3, none⟩ = some (.int .i64 jon) := cell_of_row w1 w.heap.size 3 _ _ _ hq1.p
  have hU0_3 : w1.cell? ⟨w.heap.size + 2, 3, none⟩ = some (.int .i64 0) := cell_of_row w1 (w.heap.size + 2) 3 _ _ _ hq1.u
  have hF0_3 := (frozen_of_row w1 (w.heap.size + 2) 3 _ _ hq1.u)
  have hP0_4 : w1.cell? ⟨w.heap.size, 4, none⟩ = some (.slice nx_a nx.length nx_c) := cell_of_row w1 w.heap.size 4 _ _ _ hq1.p
  have hU0_4 : w1.cell? ⟨w.heap.size + 2, 4, none⟩ = some (.slice none 0 0) := cell_of_row w1 (w.heap.size + 2) 4 _ _ _ hq1.u
  have hF0_4 := (frozen_of_row w1 (w.heap.size + 2) 4 _ _ hq1.u)
  have HH1 := Three.put [.slice phis_a9 phis.length phis_c9] 0 (A := []) (B := [.slice none 0 0]) (C := [.slice none 0 0, .int .i64 0, .int .i64 0, .slice none 0 0]) hq1 rfl rfl
  have HS1 := Lib.hid (And.intro HH1 (And.intro (heap_setCells_size (g := w.heap.size + 2) [.slice phis_a9 phis.length phis_c9] w1 0) (turned_setCells (g := w.heap.size + 2) [.slice phis_a9 phis.length phis_c9] w1 0)))
  have HO1 := Lib.hid (And.intro phis_o (And.intro hT1 (And.intro hm1 hd1)))
  clear HH1 hq1 phis_o hT1 hx1 hm1 hd1 hb0 ht0 hn0
  go_wp2_with fail
  obtain ⟨W1, hW1⟩ : ∃ W, W = (w1.setCell ⟨w.heap.size + 2, 0, none⟩ (.slice phis_a9 phis.length phis_c9)) := ⟨_, rfl⟩
  rw [← hW1]
  have ht1 := HS1.out.1
  have hv1 := HS1.out.2.1
  have hY1 := HS1.out.2.2
  simp only [World.setCells, ← hW1] at ht1 hv1 hY1
  have hn1 : w.heap.size + 3 ≤ W1.heap.size := by have := HO1.out.2.2.1; omega
  have hb1 : Below w.heap.size w W1 := HO1.out.2.2.2.trans (hY1.below (by have := HO1.out.2.2.1; omega) (fun k hk => by omega))
  have HY1 := Lib.hid hY1
  have HN1 := Lib.hid (And.intro hn1 hv1)
  clear hv1
  clear hY1 hW1 HS1
  skip
  clear hU0_0 hF0_0
  clear hP0_1
  clear hU0_1 hF0_1
  clear hP0_2
  clear hU0_2 hF0_2
  clear hP0_3
  clear hU0_3 hF0_3
  clear hP0_4
  clear hU0_4 hF0_4
  refine (toInsS_any ins_a ins.length ins_c ins W1 (ins_r.later insR_lasts hb1) hs_ins).mono ?_
  rintro e w2 ⟨ins_a9, ins_c9, rfl, ins_o, hx2⟩
  have hq2 := ht1.later hx2 (by omega)
  have hm2 : w.heap.size + 3 ≤ w2.heap.size := by have := hx2.size; omega
  have hd2 : Below w.heap.size w w2 := hb1.trans (hx2.mono (by omega))
  have hT2 : Turned (fun k => k = w.heap.size + 1 ∨ k = w.heap.size + 2) W1 w2 := turned_of_below hx2 (fun k h1 h2 => by omega)
  have hU1_1 : w2.cell? ⟨w.heap.size + 2, 1, none⟩ = some (.slice none 0 0) := cell_of_row w2 (w.heap.size + 2) 1 _ _ _ hq2.u
  have hF1_1 := (frozen_of_row w2 (w.heap.size + 2) 1 _ _ hq2.u)
  have hP1_2 : w2.cell? ⟨w.heap.size, 2, none⟩ = some (.int .i64 jump) := cell_of_row w2 w.heap.size 2 _ _ _ hq2.p
  have hU1_2 : w2.cell? ⟨w.heap.size + 2, 2, none⟩ = some (.int .i64 0) := cell_of_row w2 (w.heap.size + 2) 2 _ _ _ hq2.u
  have hF1_2 := (frozen_of_row w2 (w.heap.size + 2) 2 _ _ hq2.u)
  have hP1_3 : w2.cell? ⟨w.heap.size, 3, none⟩ = some (.int .i64 jon) := cell_of_row w2 w.heap.size 3 _ _ _ hq2.p
  have hU1_3 : w2.cell? ⟨w.heap.size + 2, 3, none⟩ = some (.int .i64 0) := cell_of_row w2 (w.heap.size + 2) 3 _ _ _ hq2.u
  have hF1_3 := (frozen_of_row w2 (w.heap.size + 2) 3 _ _ hq2.u)
  have hP1_4 : w2.cell? ⟨w.heap.size, 4, none⟩ = some (.slice nx_a nx.length nx_c) := cell_of_row w2 w.heap.size 4 _ _ _ hq2.p
  have hU1_4 : w2.cell? ⟨w.heap.size + 2, 4, none⟩ = some (.slice none 0 0) := cell_of_row w2 (w.heap.size + 2) 4 _ _ _ hq2.u
  have hF1_4 := (frozen_of_row w2 (w.heap.size + 2) 4 _ _ hq2.u)
  have HH2 := Three.put [.slice ins_a9 ins.length ins_c9, .int .i64 jump, .int .i64 jon] 1 (A := [.slice phis_a9 phis.length phis_c9]) (B := [.slice none 0 0, .int .i64 0, .int .i64 0]) (C := [.slice none 0 0]) hq2 rfl rfl
  have HS2 := Lib.hid (And.intro HH2 (And.intro (heap_setCells_size (g := w.heap.size + 2) [.slice ins_a9 ins.length ins_c9, .int .i64 jump, .int .i64 jon] w2 1) (turned_setCells (g := w.heap.size + 2) [.slice ins_a9 ins.length ins_c9, .int .i64 jump, .int .i64 jon] w2 1)))
  have HO2 := Lib.hid (And.intro ins_o (And.intro hT2 (And.intro hm2 hd2)))
  clear HH2 hq2 ins_o hT2 hx2 hm2 hd2 hb1 ht1 hn1
  go_wp2_with fail
  obtain ⟨W2, hW2⟩ : ∃ W, W = (((w2.setCell ⟨w.heap.size + 2, 1, none⟩ (.slice ins_a9 ins.length ins_c9)).setCell ⟨w.heap.size + 2, 2, none⟩ (.int .i64 jump)).setCell ⟨w.heap.size + 2, 3, none⟩ (.int .i64 jon)) := ⟨_, rfl⟩
  rw [← hW2]
  have ht2 := HS2.out.1
  have hv2 := HS2.out.2.1
  have hY2 := HS2.out.2.2
  simp only [World.setCells, Nat.reduceAdd, ← hW2] at ht2 hv2 hY2
  have hn2 : w.heap.size + 3 ≤ W2.heap.size := by have := HO2.out.2.2.1; omega
  have hb2 : Below w.heap.size w W2 := HO2.out.2.2.2.trans (hY2.below (by have := HO2.out.2.2.1; omega) (fun k hk => by omega))
  have HY2 := Lib.hid hY2
  have HN2 := Lib.hid (And.intro hn2 hv2)
  clear hv2
  clear hY2 hW2 HS2
  skip
  skip
  skip
  clear hU1_1 hF1_1
  clear hP1_2
  clear hU1_2 hF1_2
  clear hP1_3
  clear hU1_3 hF1_3
  clear hP1_4
  clear hU1_4 hF1_4
  refine (toIntS_own nx_a nx.length nx_c nx W2 (nx_r.later hb2) (by omega)).mono ?_
  rintro e w3 ⟨nx_a9, nx_c9, rfl, nx_o, hx3⟩
  have hq3 := ht2.later hx3 (by omega)
  have hm3 : w.heap.size + 3 ≤ w3.heap.size := by have := hx3.size; omega
  have hd3 : Below w.heap.size w w3 := hb2.trans (hx3.mono (by omega))
  have hT3 : Turned (fun k => k = w.heap.size + 1 ∨ k = w.heap.size + 2) W2 w3 := turned_of_below hx3 (fun k h1 h2 => by omega)
  have hU2_0 : w3.cell? ⟨w.heap.size + 2, 0, none⟩ = some (.slice phis_a9 phis.length phis_c9) := cell_of_row w3 (w.heap.size + 2) 0 _ _ _ hq3.u
  have hF2_0 := (frozen_of_row w3 (w.heap.size + 2) 0 _ _ hq3.u)
  have hZ2_0 : w3.cell? ⟨w.heap.size + 1, 0, none⟩ = some (.slice none 0 0) := cell_of_row w3 (w.heap.size + 1) 0 _ _ _ hq3.z
  have hG2_0 := (frozen_of_row w3 (w.heap.size + 1) 0 _ _ hq3.z)
  have hU2_1 : w3.cell? ⟨w.heap.size + 2, 1, none⟩ = some (.slice ins_a9 ins.length ins_c9) := cell_of_row w3 (w.heap.size + 2) 1 _ _ _ hq3.u
  have hF2_1 := (frozen_of_row w3 (w.heap.size + 2) 1 _ _ hq3.u)
  have hZ2_1 : w3.cell? ⟨w.heap.size + 1, 1, none⟩ = some (.slice none 0 0) := cell_of_row w3 (w.heap.size + 1) 1 _ _ _ hq3.z
  have hG2_1 := (frozen_of_row w3 (w.heap.size + 1) 1 _ _ hq3.z)
  have hU2_2 : w3.cell? ⟨w.heap.size + 2, 2, none⟩ = some (.int .i64 jump) := cell_of_row w3 (w.heap.size + 2) 2 _ _ _ hq3.u
  have hF2_2 := (frozen_of_row w3 (w.heap.size + 2) 2 _ _ hq3.u)
  have hZ2_2 : w3.cell? ⟨w.heap.size + 1, 2, none⟩ = some (.int .i64 0) := cell_of_row w3 (w.heap.size + 1) 2 _ _ _ hq3.z
  have hG2_2 := (frozen_of_row w3 (w.heap.size + 1) 2 _ _ hq3.z)
  have hU2_3 : w3.cell? ⟨w.heap.size + 2, 3, none⟩ = some (.int .i64 jon) := cell_of_row w3 (w.heap.size + 2) 3 _ _ _ hq3.u
  have hF2_3 := (frozen_of_row w3 (w.heap.size + 2) 3 _ _ hq3.u)
  have hZ2_3 : w3.cell? ⟨w.heap.size + 1, 3, none⟩ = some (.int .i64 0) := cell_of_row w3 (w.heap.size + 1) 3 _ _ _ hq3.z
  have hG2_3 := (frozen_of_row w3 (w.heap.size + 1) 3 _ _ hq3.z)
  have hU2_4 : w3.cell? ⟨w.heap.size + 2, 4, none⟩ = some (.slice none 0 0) := cell_of_row w3 (w.heap.size + 2) 4 _ _ _ hq3.u
  have hF2_4 := (frozen_of_row w3 (w.heap.size + 2) 4 _ _ hq3.u)
  have hZ2_4 : w3.cell? ⟨w.heap.size + 1, 4, none⟩ = some (.slice none 0 0) := cell_of_row w3 (w.heap.size + 1) 4 _ _ _ hq3.z
  have hG2_4 := (frozen_of_row w3 (w.heap.size + 1) 4 _ _ hq3.z)
  have HH3 := Three.put [.slice nx_a9 nx.length nx_c9] 4 (A := [.slice phis_a9 phis.length phis_c9, .slice ins_a9 ins.length ins_c9, .int .i64 jump, .int .i64 jon]) (B := [.slice none 0 0]) (C := []) hq3 rfl rfl
  have HS3 := Lib.hid (And.intro HH3 (And.intro (heap_setCells_size (g := w.heap.size + 2) [.slice nx_a9 nx.length nx_c9] w3 4) (turned_setCells (g := w.heap.size + 2) [.slice nx_a9 nx.length nx_c9] w3 4)))
  have HO3 := Lib.hid (And.intro nx_o (And.intro hT3 (And.intro hm3 hd3)))
  clear HH3 hq3 nx_o hT3 hx3 hm3 hd3 hb2 ht2 hn2
  go_wp2
  have hF : ((w3.setCells (w.heap.size + 2) 4 [.slice nx_a9 nx.length nx_c9]).setCells (w.heap.size + 1) 0 [.slice phis_a9 phis.length phis_c9, .slice ins_a9 ins.length ins_c9, .int .i64 jump, .int .i64 jon, .slice nx_a9 nx.length nx_c9]).heap[w.heap.size + 1]? = some (.cells [.slice phis_a9 phis.length phis_c9, .slice ins_a9 ins.length ins_c9, .int .i64 jump, .int .i64 jon, .slice nx_a9 nx.length nx_c9].toArray 49 (0, 0)) := heap_setCells_mid (A := []) (B := [.slice none 0 0, .slice none 0 0, .int .i64 0, .int .i64 0, .slice none 0 0]) (C := []) rfl rfl HS3.out.1.z
  have hTm : Turned (fun k => k = w.heap.size + 1 ∨ k = w.heap.size + 2) w3 ((w3.setCells (w.heap.size + 2) 4 [.slice nx_a9 nx.length nx_c9]).setCells (w.heap.size + 1) 0 [.slice phis_a9 phis.length phis_c9, .slice ins_a9 ins.length ins_c9, .int .i64 jump, .int .i64 jon, .slice nx_a9 nx.length nx_c9]) := (HS3.out.2.2.mono (fun k hk => .inr hk)).trans ((turned_setCells _ _ _).mono (fun k hk => .inl hk))
  have hsz : ((w3.setCells (w.heap.size + 2) 4 [.slice nx_a9 nx.length nx_c9]).setCells (w.heap.size + 1) 0 [.slice phis_a9 phis.length phis_c9, .slice ins_a9 ins.length ins_c9, .int .i64 jump, .int .i64 jon, .slice nx_a9 nx.length nx_c9]).heap.size = w3.heap.size := (heap_setCells_size _ _ _).trans (heap_setCells_size _ _ _)
  have hT_2 := ((HY2.out.mono (fun k hk => .inr hk)).trans HO3.out.2.1).trans hTm
  have hT_1 := ((HY1.out.mono (fun k hk => .inr hk)).trans HO2.out.2.1).trans hT_2
  have ho0 := HO1.out.1.turned phiO_keeps hT_1 (fun k h1 h2 h3 => by have := HN0.out; omega)
  have ho1 := HO2.out.1.turned insO_keeps hT_2 (fun k h1 h2 h3 => by have := HN1.out.1; omega)
  have ho2 := HO3.out.1.turned hTm (fun k h1 h2 h3 => by have := HN2.out.1; omega)
  have hbF : Below w.heap.size w ((w3.setCells (w.heap.size + 2) 4 [.slice nx_a9 nx.length nx_c9]).setCells (w.heap.size + 1) 0 [.slice phis_a9 phis.length phis_c9, .slice ins_a9 ins.length ins_c9, .int .i64 jump, .int .i64 jon, .slice nx_a9 nx.length nx_c9]) := HO3.out.2.2.2.trans (hTm.below (by have := HO3.out.2.2.1; omega) (fun k hk => by omega))
  have hres : BlockO w.heap.size ((w3.setCells (w.heap.size + 2) 4 [.slice nx_a9 nx.length nx_c9]).setCells (w.heap.size + 1) 0 [.slice phis_a9 phis.length phis_c9, .slice ins_a9 ins.length ins_c9, .int .i64 jump, .int .i64 jon, .slice nx_a9 nx.length nx_c9]).heap.size ((w3.setCells (w.heap.size + 2) 4 [.slice nx_a9 nx.length nx_c9]).setCells (w.heap.size + 1) 0 [.slice phis_a9 phis.length phis_c9, .slice ins_a9 ins.length ins_c9, .int .i64 jump, .int .i64 jon, .slice nx_a9 nx.length nx_c9]) [.slice phis_a9 phis.length phis_c9, .slice ins_a9 ins.length ins_c9, .int .i64 jump, .int .i64 jon, .slice nx_a9 nx.length nx_c9] ⟨phis, ins, jump, jon, nx⟩ := by
    rw [hsz]
    exact ⟨phis_a9, phis_c9, ins_a9, ins_c9, nx_a9, nx_c9, w1.heap.size, w2.heap.size, rfl, ho0.wide phiO_keeps (by have := HN0.out; omega) (Nat.le_refl _), ho1.wide insO_keeps (by have := HN1.out.2; omega) (Nat.le_refl _), ho2.wide (by have := HN2.out.2; omega) (Nat.le_refl _)⟩
  refine bodyPost_ret (results_cell_row rfl _ _ (w.heap.size + 1) 49 #[.slice phis_a9 phis.length phis_c9, .slice ins_a9 ins.length ins_c9, .int .i64 jump, .int .i64 jon, .slice nx_a9 nx.length nx_c9] (0, 0) _ rfl ?_ Tryz.underlying49 rfl (by kernel_rfl)) rfl ⟨_, rfl, hres, hbF⟩
  exact hF

theorem info_Block : (Tryz.prog.info? 49).map (fun i => (i.zero, i.size, i.bytes)) = some (some (.agg #[.slice none 0 0, .slice none 0 0, .int .i64 0, .int .i64 0, .slice none 0 0]), 5, 88) := by kernel_rfl
theorem und_BlockS : Tryz.prog.underlying 50 = some (.slice 49) := by kernel_rfl
set_option maxHeartbeats 1000000 in
theorem toBlockS_any (a : Option Addr) (len cap : Nat) (xs : List BlockD) (w : World) (hin : SliceRd 5 BlockR w a len xs) (hs : szS szBlockD xs ≤ 1048576) :
    Calls Tryz.prog 56 #[.slice a len cap] w fun e w' => ∃ a' c', e = .returned (.slice a' len c') ∧ SliceOwn 5 49 BlockO w.heap.size w'.heap.size w' a' len c' xs ∧ Below w.heap.size w w' := by
  have hlen : len ≤ 1048576 := by have := hin.length; unfold szS at hs; omega
  obtain ⟨i0, hi, hz0, hz1, hz2⟩ := info_parts info_Block
  go_enter Tryz.func56, Tryz.ntmps56
  go_wp2_with (at_make; refine wpList_make_full _ rfl _ _ 50 rfl w.heap.size 49 i0 (.agg #[.slice none 0 0, .slice none 0 0, .int .i64 0, .int .i64 0, .slice none 0 0]) 5 und_BlockS hi hz0 hz1 _ _ _ _ len rfl rfl rfl rfl (by rw [hz2]; omega) (by unfold maxLen; omega) (Nat.le_refl _) ?_; intro w1 hown hg)
  have hb1 : Below w.heap.size w w1 := (Below.refl _ _).grown hg (Nat.le_refl _) (by simp)
  have hf : SliceFill 5 49 BlockO w.heap.size w1.heap.size w1 len [.slice none 0 0, .slice none 0 0, .int .i64 0, .int .i64 0, .slice none 0 0] [] := SliceFill.start (by rw [← toList_madeCells _ _ (by decide)]; exact hown) rfl (hown.lt w.heap.size rfl).2
  have HF := Lib.hid hf
  have HS := Lib.hid (And.intro hs hin.length)
  clear hown hg hi hz0 hz1 hz2 hf hs
  go_wp2
  go_loopw [4] (fun i wr => ∃ k : Nat, k ≤ len ∧ i = .int .i64 k ∧ Below w.heap.size w wr ∧ Hid (SliceFill 5 49 BlockO w.heap.size wr.heap.size wr len [.slice none 0 0, .slice none 0 0, .int .i64 0, .int .i64 0, .slice none 0 0] (xs.take k))) (fun i _ => len - (intOf i).toNat)
  case atStart => exact ⟨0, Nat.zero_le _, rfl, hb1, Lib.hid (by simpa using HF.out)⟩
  case round =>
    obtain ⟨k, hk, rfl, hbr, HD⟩ := hrel
    clear HF hb1
    by_cases hlt : k < len
    · obtain ⟨b, off, phis, ins, jump, jon, nx, phis_a, phis_c, ins_a, ins_c, nx_a, nx_c, rfl, hx, c0, c1, c2, c3, c4, hR⟩ := block_place (hin.later blockR_lasts hbr) hlt
      have hz : szBlockD ⟨phis, ins, jump, jon, nx⟩ ≤ 1048576 := Nat.le_trans (szS_mem (List.mem_of_getElem? hx)) HS.out.1
      have HX := Lib.hid (And.intro hx (And.intro hR hz))
      clear hx hR hz
      go_wp2_with fail
      refine (toBlock_any _ ⟨phis, ins, jump, jon, nx⟩ wr HX.out.2.1 HX.out.2.2).mono ?_
      rintro e w2 ⟨cs', rfl, hO, hb2⟩
      have hO0 := hO
      obtain ⟨phis_a9, phis_c9, ins_a9, ins_c9, nx_a9, nx_c9, m1, m2, rfl, _⟩ := hO0
      have hfill := HD.out
      have hkl : (xs.take k).length = k := by have := HS.out.2; rw [List.length_take]; omega
      have hz0 : w2.cell? ⟨w.heap.size, k * 5, none⟩ = some _ := (hfill.there hb2 hkl hlt (j := 0) rfl).1
      have hy0 : w2.frozen? ⟨w.heap.size, k * 5, none⟩ = false := (hfill.there hb2 hkl hlt (j := 0) rfl).2
      have hz1 : w2.cell? ⟨w.heap.size, k * 5 + 1, none⟩ = some _ := (hfill.there hb2 hkl hlt (j := 1) rfl).1
      have hy1 : w2.frozen? ⟨w.heap.size, k * 5 + 1, none⟩ = false := (hfill.there hb2 hkl hlt (j := 1) rfl).2
      have hz2 : w2.cell? ⟨w.heap.size, k * 5 + 2, none⟩ = some _ := (hfill.there hb2 hkl hlt (j := 2) rfl).1
      have hy2 : w2.frozen? ⟨w.heap.size, k * 5 + 2, none⟩ = false := (hfill.there hb2 hkl hlt (j := 2) rfl).2
      have hz3 : w2.cell? ⟨w.heap.size, k * 5 + 3, none⟩ = some _ := (hfill.there hb2 hkl hlt (j := 3) rfl).1
      have hy3 : w2.frozen? ⟨w.heap.size, k * 5 + 3, none⟩ = false := (hfill.there hb2 hkl hlt (j := 3) rfl).2
      have hz4 : w2.cell? ⟨w.heap.size, k * 5 + 4, none⟩ = some _ := (hfill.there hb2 hkl hlt (j := 4) rfl).1
      have hy4 : w2.frozen? ⟨w.heap.size, k * 5 + 4, none⟩ = false := (hfill.there hb2 hkl hlt (j := 4) rfl).2
      have hput := hfill.put blockO_keeps (by omega) hb2 (Nat.le_refl _) hO rfl
      rw [hkl] at hput
      simp only [World.setCells, Nat.add_assoc, Nat.reduceAdd] at hput
      have HP := Lib.hid hput
      have hbr2 : Below w.heap.size w w2 := hbr.trans (hb2.mono hbr.size)
      clear hput hfill hkl hO hb2 hbr HD
      go_wp2
      go_roundw
      case rel => exact ⟨k + 1, by omega, by go_num, hbr2.trans (HP.out.2.below hbr2.size (fun j hj => by omega)), Lib.hid (by rw [take_succ_of HX.out.1]; simp only [World.size_setCell]; exact HP.out.1)⟩
      case measure => simp [intOf]; omega
    · obtain rfl : k = len := by omega
      go_wp2
      go_ret
      have hd := HD.out
      rw [List.take_of_length_le (by have := HS.out.2; omega)] at hd
      exact ⟨_, _, rfl, hd.done HS.out.2, hbr⟩

set_option maxHeartbeats 400000 in
theorem toCode_any (cs : List Value) (x : CodeD) (w : World) (hR : CodeR w cs x) (hs : szCodeD x ≤ 1048576) :
    Calls Tryz.prog 37 #[.agg cs.toArray] w fun e w' => ∃ cs', e = .returned (.agg cs'.toArray) ∧ CodeO w.heap.size w'.heap.size w' cs' x ∧ Below w.heap.size w w' := by
  obtain ⟨blocks_a, blocks_c, rfl, ⟨blocks_m, blocks_r⟩⟩ := hR
  unfold szCodeD at hs
  obtain ⟨params, regs, blocks⟩ := x
  simp only at hs
  have hs_blocks : szS szBlockD blocks ≤ 1048576 := by omega
  clear hs blocks_m
  go_enter Tryz.func37, Tryz.ntmps37
  go_wp2_with fail
  have HH0 := three_blocks w (.cells #[.int .i64 params, .int .i64 regs, .slice blocks_a blocks.length blocks_c] 64) (.cells #[.int .i64 0, .int .i64 0, .slice none 0 0] 52) (.cells #[.int .i64 params, .int .i64 regs, .slice none 0 0] 52)
  generalize (((w.alloc (.cells #[.int .i64 params, .int .i64 regs, .slice blocks_a blocks.length blocks_c] 64)).alloc (.cells #[.int .i64 0, .int .i64 0, .slice none 0 0] 52)).alloc (.cells #[.int .i64 params, .int .i64 regs, .slice none 0 0] 52)) = W0 at HH0 ⊢
  obtain ⟨ht0, hn0, hb0⟩ := HH0
  have HN0 := Lib.hid hn0
  refine (toBlockS_any blocks_a blocks.length blocks_c blocks W0 (blocks_r.later blockR_lasts hb0) hs_blocks).mono ?_
  rintro e w1 ⟨blocks_a9, blocks_c9, rfl, blocks_o, hx1⟩
  have hq1 := ht0.later hx1 (by omega)
  have hm1 : w.heap.size + 3 ≤ w1.heap.size := by have := hx1.size; omega
  have hd1 : Below w.heap.size w w1 := hb0.trans (hx1.mono (by omega))
  have hT1 : Turned (fun k => k = w.heap.size + 1 ∨ k = w.heap.size + 2) W0 w1 := turned_of_below hx1 (fun k h1 h2 => by omega)
  have hU0_0 : w1.cell? ⟨w.heap.size + 2, 0, none⟩ = some (.int .i64 params) := cell_of_row w1 (w.heap.size + 2) 0 _ _ _ hq1.u
  have hF0_0 := (frozen_of_row w1 (w.heap.size + 2) 0 _ _ hq1.u)
  have hZ0_0 : w1.cell? ⟨w.heap.size + 1, 0, none⟩ = some (.int .i64 0) := cell_of_row w1 (w.heap.size + 1) 0 _ _ _ hq1.z
  have hG0_0 := (frozen_of_row w1 (w.heap.size + 1) 0 _ _ hq1.z)
  have hU0_1 : w1.cell? ⟨w.heap.size + 2, 1, none⟩ = some (.int .i64 regs) := cell_of_row w1 (w.heap.size + 2) 1 _ _ _ hq1.u
  have hF0_1 := (frozen_of_row w1 (w.heap.size + 2) 1 _ _ hq1.u)
  have hZ0_1 : w1.cell? ⟨w.heap.size + 1, 1, none⟩ = some (.int .i64 0) := cell_of_row w1 (w.heap.size + 1) 1 _ _ _ hq1.z
  have hG0_1 := (frozen_of_row w1 (w.heap.size + 1) 1 _ _ hq1.z)
  have hU0_2 : w1.cell? ⟨w.heap.size + 2, 2, none⟩ = some (.slice none 0 0) := cell_of_row w1 (w.heap.size + 2) 2 _ _ _ hq1.u
  have hF0_2 := (frozen_of_row w1 (w.heap.size + 2) 2 _ _ hq1.u)
  have hZ0_2 : w1.cell? ⟨w.heap.size + 1, 2, none⟩ = some (.slice none 0 0) := cell_of_row w1 (w.heap.size + 1) 2 _ _ _ hq1.z
  have hG0_2 := (frozen_of_row w1 (w.heap.size + 1) 2 _ _ hq1.z)
  have HH1 := Three.put [.slice blocks_a9 blocks.length blocks_c9] 2 (A := [.int .i64 params, .int .i64 regs]) (B := [.slice none 0 0]) (C := []) hq1 rfl rfl
  have HS1 := Lib.hid (And.intro HH1 (And.intro (heap_setCells_size (g := w.heap.size + 2) [.slice blocks_a9 blocks.length blocks_c9] w1 2) (turned_setCells (g := w.heap.size + 2) [.slice blocks_a9 blocks.length blocks_c9] w1 2)))
  have HO1 := Lib.hid (And.intro blocks_o (And.intro hT1 (And.intro hm1 hd1)))
  clear HH1 hq1 blocks_o hT1 hx1 hm1 hd1 hb0 ht0 hn0
  go_wp2
  have hF : ((w1.setCells (w.heap.size + 2) 2 [.slice blocks_a9 blocks.length blocks_c9]).setCells (w.heap.size + 1) 0 [.int .i64 params, .int .i64 regs, .slice blocks_a9 blocks.length blocks_c9]).heap[w.heap.size + 1]? = some (.cells [.int .i64 params, .int .i64 regs, .slice blocks_a9 blocks.length blocks_c9].toArray 52 (0, 0)) := heap_setCells_mid (A := []) (B := [.int .i64 0, .int .i64 0, .slice none 0 0]) (C := []) rfl rfl HS1.out.1.z
  have hTm : Turned (fun k => k = w.heap.size + 1 ∨ k = w.heap.size + 2) w1 ((w1.setCells (w.heap.size + 2) 2 [.slice blocks_a9 blocks.length blocks_c9]).setCells (w.heap.size + 1) 0 [.int .i64 params, .int .i64 regs, .slice blocks_a9 blocks.length blocks_c9]) := (HS1.out.2.2.mono (fun k hk => .inr hk)).trans ((turned_setCells _ _ _).mono (fun k hk => .inl hk))
  have hsz : ((w1.setCells (w.heap.size + 2) 2 [.slice blocks_a9 blocks.length blocks_c9]).setCells (w.heap.size + 1) 0 [.int .i64 params, .int .i64 regs, .slice blocks_a9 blocks.length blocks_c9]).heap.size = w1.heap.size := (heap_setCells_size _ _ _).trans (heap_setCells_size _ _ _)
  have ho0 := HO1.out.1.turned blockO_keeps hTm (fun k h1 h2 h3 => by have := HN0.out; omega)
  have hbF : Below w.heap.size w ((w1.setCells (w.heap.size + 2) 2 [.slice blocks_a9 blocks.length blocks_c9]).setCells (w.heap.size + 1) 0 [.int .i64 params, .int .i64 regs, .slice blocks_a9 blocks.length blocks_c9]) := HO1.out.2.2.2.trans (hTm.below (by have := HO1.out.2.2.1; omega) (fun k hk => by omega))
  have hres : CodeO w.heap.size ((w1.setCells (w.heap.size + 2) 2 [.slice blocks_a9 blocks.length blocks_c9]).setCells (w.heap.size + 1) 0 [.int .i64 params, .int .i64 regs, .slice blocks_a9 blocks.length blocks_c9]).heap.size ((w1.setCells (w.heap.size + 2) 2 [.slice blocks_a9 blocks.length blocks_c9]).setCells (w.heap.size + 1) 0 [.int .i64 params, .int .i64 regs, .slice blocks_a9 blocks.length blocks_c9]) [.int .i64 params, .int .i64 regs, .slice blocks_a9 blocks.length blocks_c9] ⟨params, regs, blocks⟩ := by
    rw [hsz]
    exact ⟨blocks_a9, blocks_c9, rfl, ho0.wide blockO_keeps (by have := HN0.out; omega) (Nat.le_refl _)⟩
  refine bodyPost_ret (results_cell_row rfl _ _ (w.heap.size + 1) 52 #[.int .i64 params, .int .i64 regs, .slice blocks_a9 blocks.length blocks_c9] (0, 0) _ rfl ?_ Tryz.underlying52 rfl (by kernel_rfl)) rfl ⟨_, rfl, hres, hbF⟩
  exact hF

theorem info_Code : (Tryz.prog.info? 52).map (fun i => (i.zero, i.size, i.bytes)) = some (some (.agg #[.int .i64 0, .int .i64 0, .slice none 0 0]), 3, 40) := by kernel_rfl
theorem und_CodeS : Tryz.prog.underlying 28 = some (.slice 52) := by kernel_rfl
set_option maxHeartbeats 1000000 in
theorem toCodeS_any (a : Option Addr) (len cap : Nat) (xs : List CodeD) (w : World) (hin : SliceRd 3 CodeR w a len xs) (hs : szS szCodeD xs ≤ 1048576) :
    Calls Tryz.prog 21 #[.slice a len cap] w fun e w' => ∃ a' c', e = .returned (.slice a' len c') ∧ SliceOwn 3 52 CodeO w.heap.size w'.heap.size w' a' len c' xs ∧ Below w.heap.size w w' := by
  have hlen : len ≤ 1048576 := by have := hin.length; unfold szS at hs; omega
  obtain ⟨i0, hi, hz0, hz1, hz2⟩ := info_parts info_Code
  go_enter Tryz.func21, Tryz.ntmps21
  go_wp2_with (at_make; refine wpList_make_full _ rfl _ _ 28 rfl w.heap.size 52 i0 (.agg #[.int .i64 0, .int .i64 0, .slice none 0 0]) 3 und_CodeS hi hz0 hz1 _ _ _ _ len rfl rfl rfl rfl (by rw [hz2]; omega) (by unfold maxLen; omega) (Nat.le_refl _) ?_; intro w1 hown hg)
  have hb1 : Below w.heap.size w w1 := (Below.refl _ _).grown hg (Nat.le_refl _) (by simp)
  have hf : SliceFill 3 52 CodeO w.heap.size w1.heap.size w1 len [.int .i64 0, .int .i64 0, .slice none 0 0] [] := SliceFill.start (by rw [← toList_madeCells _ _ (by decide)]; exact hown) rfl (hown.lt w.heap.size rfl).2
  have HF := Lib.hid hf
  have HS := Lib.hid (And.intro hs hin.length)
  clear hown hg hi hz0 hz1 hz2 hf hs
  go_wp2
  go_loopw [4] (fun i wr => ∃ k : Nat, k ≤ len ∧ i = .int .i64 k ∧ Below w.heap.size w wr ∧ Hid (SliceFill 3 52 CodeO w.heap.size wr.heap.size wr len [.int .i64 0, .int .i64 0, .slice none 0 0] (xs.take k))) (fun i _ => len - (intOf i).toNat)
  case atStart => exact ⟨0, Nat.zero_le _, rfl, hb1, Lib.hid (by simpa using HF.out)⟩
  case round =>
    obtain ⟨k, hk, rfl, hbr, HD⟩ := hrel
    clear HF hb1
    by_cases hlt : k < len
    · obtain ⟨b, off, params, regs, blocks, blocks_a, blocks_c, rfl, hx, c0, c1, c2, hR⟩ := code_place (hin.later codeR_lasts hbr) hlt
      have hz : szCodeD ⟨params, regs, blocks⟩ ≤ 1048576 := Nat.le_trans (szS_mem (List.mem_of_getElem? hx)) HS.out.1
      have HX := Lib.hid (And.intro hx (And.intro hR hz))
      clear hx hR hz
      go_wp2_with fail
      refine (toCode_any _ ⟨params, regs, blocks⟩ wr HX.out.2.1 HX.out.2.2).mono ?_
      rintro e w2 ⟨cs', rfl, hO, hb2⟩
      have hO0 := hO
      obtain ⟨blocks_a9, blocks_c9, rfl, _⟩ := hO0
      have hfill := HD.out
      have hkl : (xs.take k).length = k := by have := HS.out.2; rw [List.length_take]; omega
      have hz0 : w2.cell? ⟨w.heap.size, k * 3, none⟩ = some _ := (hfill.there hb2 hkl hlt (j := 0) rfl).1
      have hy0 : w2.frozen? ⟨w.heap.size, k * 3, none⟩ = false := (hfill.there hb2 hkl hlt (j := 0) rfl).2
      have hz1 : w2.cell? ⟨w.heap.size, k * 3 + 1, none⟩ = some _ := (hfill.there hb2 hkl hlt (j := 1) rfl).1
      have hy1 : w2.frozen? ⟨w.heap.size, k * 3 + 1, none⟩ = false := (hfill.there hb2 hkl hlt (j := 1) rfl).2
      have hz2 : w2.cell? ⟨w.heap.size, k * 3 + 2, none⟩ = some _ := (hfill.there hb2 hkl hlt (j := 2) rfl).1
      have hy2 : w2.frozen? ⟨w.heap.size, k * 3 + 2, none⟩ = false := (hfill.there hb2 hkl hlt (j := 2) rfl).2
      have hput := hfill.put codeO_keeps (by omega) hb2 (Nat.le_refl _) hO rfl
      rw [hkl] at hput
      simp only [World.setCells, Nat.add_assoc, Nat.reduceAdd] at hput
      have HP := Lib.hid hput
      have hbr2 : Below w.heap.size w w2 := hbr.trans (hb2.mono hbr.size)
      clear hput hfill hkl hO hb2 hbr HD
      go_wp2
      go_roundw
      case rel => exact ⟨k + 1, by omega, by go_num, hbr2.trans (HP.out.2.below hbr2.size (fun j hj => by omega)), Lib.hid (by rw [take_succ_of HX.out.1]; simp only [World.size_setCell]; exact HP.out.1)⟩
      case measure => simp [intOf]; omega
    · obtain rfl : k = len := by omega
      go_wp2
      go_ret
      have hd := HD.out
      rw [List.take_of_length_le (by have := HS.out.2; omega)] at hd
      exact ⟨_, _, rfl, hd.done HS.out.2, hbr⟩

set_option maxHeartbeats 400000 in
theorem toUnit_any (cs : List Value) (x : UnitD) (w : World) (hR : UnitR w cs x) (hs : szUnitD x ≤ 1048576) :
    Calls Tryz.prog 7 #[.agg cs.toArray] w fun e w' => ∃ cs', e = .returned (.agg cs'.toArray) ∧ UnitO w.heap.size w'.heap.size w' cs' x ∧ Below w.heap.size w w' := by
  obtain ⟨codes_a, codes_c, rfl, ⟨codes_m, codes_r⟩⟩ := hR
  unfold szUnitD at hs
  obtain ⟨codes⟩ := x
  simp only at hs
  have hs_codes : szS szCodeD codes ≤ 1048576 := by omega
  clear hs codes_m
  go_enter Tryz.func7, Tryz.ntmps7
  go_wp2_with fail
  have HH0 := three_blocks w (.cells #[.slice codes_a codes.length codes_c] 24) (.cells #[.slice none 0 0] 30) (.cells #[.slice none 0 0] 30)
  generalize (((w.alloc (.cells #[.slice codes_a codes.length codes_c] 24)).alloc (.cells #[.slice none 0 0] 30)).alloc (.cells #[.slice none 0 0] 30)) = W0 at HH0 ⊢
  obtain ⟨ht0, hn0, hb0⟩ := HH0
  have HN0 := Lib.hid hn0
  refine (toCodeS_any codes_a codes.length codes_c codes W0 (codes_r.later codeR_lasts hb0) hs_codes).mono ?_
  rintro e w1 ⟨codes_a9, codes_c9, rfl, codes_o, hx1⟩
  have hq1 := ht0.later hx1 (by omega)
  have hm1 : w.heap.size + 3 ≤ w1.heap.size := by have := hx1.size; omega
  have hd1 : Below w.heap.size w w1 := hb0.trans (hx1.mono (by omega))
  have hT1 : Turned (fun k => k = w.heap.size + 1 ∨ k = w.heap.size + 2) W0 w1 := turned_of_below hx1 (fun k h1 h2 => by omega)
  have hU0_0 : w1.cell? ⟨w.heap.size + 2, 0, none⟩ = some (.slice none 0 0) := cell_of_row w1 (w.heap.size + 2) 0 _ _ _ hq1.u
  have hF0_0 := (frozen_of_row w1 (w.heap.size + 2) 0 _ _ hq1.u)
  have hZ0_0 : w1.cell? ⟨w.heap.size + 1, 0, none⟩ = some (.slice none 0 0) := cell_of_row w1 (w.heap.size + 1) 0 _ _ _ hq1.z
  have hG0_0 := (frozen_of_row w1 (w.heap.size + 1) 0 _ _ hq1.z)
  have HH1 := Three.put [.slice codes_a9 codes.length codes_c9] 0 (A := []) (B := [.slice none 0 0]) (C := []) hq1 rfl rfl
  have HS1 := Lib.hid (And.intro HH1 (And.intro (heap_setCells_size (g := w.heap.size + 2) [.slice codes_a9 codes.length codes_c9] w1 0) (turned_setCells (g := w.heap.size + 2) [.slice codes_a9 codes.length codes_c9] w1 0)))
  have HO1 := Lib.hid (And.intro codes_o (And.intro hT1 (And.intro hm1 hd1)))
  clear HH1 hq1 codes_o hT1 hx1 hm1 hd1 hb0 ht0 hn0
  go_wp2
  have hF : ((w1.setCells (w.heap.size + 2) 0 [.slice codes_a9 codes.length codes_c9]).setCells (w.heap.size + 1) 0 [.slice codes_a9 codes.length codes_c9]).heap[w.heap.size + 1]? = some (.cells [.slice codes_a9 codes.length codes_c9].toArray 30 (0, 0)) := heap_setCells_mid (A := []) (B := [.slice none 0 0]) (C := []) rfl rfl HS1.out.1.z
  have hTm : Turned (fun k => k = w.heap.size + 1 ∨ k = w.heap.size + 2) w1 ((w1.setCells (w.heap.size + 2) 0 [.slice codes_a9 codes.length codes_c9]).setCells (w.heap.size + 1) 0 [.slice codes_a9 codes.length codes_c9]) := (HS1.out.2.2.mono (fun k hk => .inr hk)).trans ((turned_setCells _ _ _).mono (fun k hk => .inl hk))
  have hsz : ((w1.setCells (w.heap.size + 2) 0 [.slice codes_a9 codes.length codes_c9]).setCells (w.heap.size + 1) 0 [.slice codes_a9 codes.length codes_c9]).heap.size = w1.heap.size := (heap_setCells_size _ _ _).trans (heap_setCells_size _ _ _)
  have ho0 := HO1.out.1.turned codeO_keeps hTm (fun k h1 h2 h3 => by have := HN0.out; omega)
  have hbF : Below w.heap.size w ((w1.setCells (w.heap.size + 2) 0 [.slice codes_a9 codes.length codes_c9]).setCells (w.heap.size + 1) 0 [.slice codes_a9 codes.length codes_c9]) := HO1.out.2.2.2.trans (hTm.below (by have := HO1.out.2.2.1; omega) (fun k hk => by omega))
  have hres : UnitO w.heap.size ((w1.setCells (w.heap.size + 2) 0 [.slice codes_a9 codes.length codes_c9]).setCells (w.heap.size + 1) 0 [.slice codes_a9 codes.length codes_c9]).heap.size ((w1.setCells (w.heap.size + 2) 0 [.slice codes_a9 codes.length codes_c9]).setCells (w.heap.size + 1) 0 [.slice codes_a9 codes.length codes_c9]) [.slice codes_a9 codes.length codes_c9] ⟨codes⟩ := by
    rw [hsz]
    exact ⟨codes_a9, codes_c9, rfl, ho0.wide codeO_keeps (by have := HN0.out; omega) (Nat.le_refl _)⟩
  refine bodyPost_ret (results_cell_row rfl _ _ (w.heap.size + 1) 30 #[.slice codes_a9 codes.length codes_c9] (0, 0) _ rfl ?_ Tryz.underlying30 rfl (by kernel_rfl)) rfl ⟨_, rfl, hres, hbF⟩
  exact hF


end Go.Proofs.YtonlidgmfmgcmaaGreat
