
/-
  The laws' marks on data of the group Unit.
-/
import Derived.Test.YtonlidgmfmgcmaaGreatUnitMark
namespace Go.Proofs.YtonlidgmfmgcmaaGreat
open Go.RowKit

set_option maxRecDepth 100000 in
set_option maxHeartbeats 2000000 in
theorem markCodeS_any (lo hi : Nat) (a : Option Addr) (len cap : Nat) (xs : List CodeD) (k : Int) (w : World) (h : SliceOwn 3 52 CodeO lo hi w a len cap xs) (hl : xs.length = len) (hs : szS szCodeD xs ≤ 1048576) (hk0 : 0 ≤ k) (hk : k + (sumOf cntCodeD xs : Nat) ≤ 1099511627776) :
    Calls Tryz.prog 25 #[.slice a len cap, .int .i64 k] w fun e w' => e = .returned (.int .i64 (k + (sumOf cntCodeD xs : Nat))) ∧ Turned (fun b => lo ≤ b ∧ b < hi) w w' := by
  have hlen : len ≤ 1048576 := by have := szS_len szCodeD xs; omega
  have hcase : (a = none ∧ len = 0 ∧ cap = 0) ∨ ∃ g, a = some ⟨g, 0, none⟩ ∧ lo ≤ g ∧ g < hi := by
    obtain ⟨cells, m, h1, h2, h3, h4, h5, h6⟩ := h
    rcases h2.2 with ⟨hv, h0⟩ | ⟨g, cap', cur, hv, hg, _⟩
    · simp only [Value.slice.injEq] at hv
      exact .inl hv
    · simp only [Value.slice.injEq] at hv
      obtain ⟨rfl, _⟩ := hv
      have := h3 g rfl
      have := h6.le codeO_keeps
      exact .inr ⟨g, rfl, hg, by omega⟩
  rcases hcase with ⟨rfl, rfl, rfl⟩ | ⟨g, rfl, hlg, hgh⟩
  · obtain rfl : xs = [] := List.length_eq_zero_iff.1 hl
    go_enter Tryz.func25, Tryz.ntmps25
    go_wp2
    refine wp_loop_rounds 1 ?_
    rw [rounds_succ]
    go_wp2
    go_ret
    exact ⟨ret_int (by simp [sumOf]), Turned.refl _ _⟩
  · have HM0 := Lib.hid (MarkSt.start h)
    have HS := Lib.hid (And.intro hs hl)
    clear h hs
    go_enter Tryz.func25, Tryz.ntmps25
    go_wp2
    go_loopg [1, 5] len (fun F c i wr => ∃ j : Nat, j + F = len ∧ i = .int .i64 j ∧ c = .int .i64 (k + (sumOf cntCodeD (xs.take j) : Nat)) ∧ Hid (MarkSt 3 52 CodeO lo hi g len cap xs w j wr))
    case atStart => exact ⟨0, by omega, rfl, int_val_eq (by simp [sumOf]), HM0⟩
    case round =>
      obtain ⟨j, hj, rfl, rfl, HM⟩ := hrel
      clear HM0
      by_cases hlt : j < len
      · obtain ⟨x, c, pre, cs, m0, me, hx, hcl, h1, h2, hrm, hgm, hR, hL⟩ := HM.out.next HS.out.2 hlt
        have hcnt : sumOf cntCodeD (xs.take (j + 1)) = sumOf cntCodeD (xs.take j) + cntCodeD x := by rw [take_succ_of hx, sumOf_snoc]
        have htot := sumOf_take cntCodeD xs (j + 1)
        have hz : szCodeD x ≤ 1048576 := Nat.le_trans (szS_mem (List.mem_of_getElem? hx)) HS.out.1
        have htd := HM.out.turned
        obtain ⟨blocks_a, blocks_c, rfl, blocks_o⟩ := hR
        obtain ⟨params, regs, blocks⟩ := x
        simp only at blocks_o hrm
        rw [show cntCodeD ⟨params, regs, blocks⟩ = 2 + sumOf cntBlockD blocks from rfl] at hcnt
        unfold szCodeD at hz
        simp only at hz
        have hle_blocks := (blocks_o.le blockO_keeps)
        have hsz_blocks : szS szBlockD blocks ≤ 1048576 := by omega
        have hLle := hL.le codeO_keeps
        have HC := Lib.hid (And.intro hcnt htot)
        have hKb : k + (sumOf cntCodeD (xs.take j) : Nat) + (2 + sumOf cntBlockD blocks : Nat) ≤ 1099511627776 := by omega
        have hK0 : 0 ≤ k + (sumOf cntCodeD (xs.take j) : Nat) := by omega
        clear hcnt htot hx hcl hz
        generalize hK : k + (sumOf cntCodeD (xs.take j) : Nat) = K at hKb hK0 ⊢
        have HK := Lib.hid hK
        clear hK
        have hz0_0 : World.cell? wr ⟨g, j * 3, none⟩ = some _ := hrm.cell (q := 0) rfl
        have hy0_0 : World.frozen? wr ⟨g, j * 3, none⟩ = false := hrm.frozen 0
        have hz0_1 : World.cell? wr ⟨g, j * 3 + 1, none⟩ = some _ := hrm.cell (q := 1) rfl
        have hy0_1 : World.frozen? wr ⟨g, j * 3 + 1, none⟩ = false := hrm.frozen 1
        have hz0_2 : World.cell? wr ⟨g, j * 3 + 2, none⟩ = some (.slice blocks_a blocks.length blocks_c) := hrm.cell (q := 2) rfl
        have hts0 : ∀ v0 v1 : Int, Turned (fun k => k = g) wr (World.setCell (World.setCell wr ⟨g, j * 3 + 0, none⟩ (.int .i64 v0)) ⟨g, j * 3 + 1, none⟩ (.int .i64 v1)) := fun v0 v1 => (((Turned.refl (fun k => k = g) wr).trans (turned_store _ g (j * 3 + 0) (.int .i64 v0))).trans (turned_store _ g (j * 3 + 1) (.int .i64 v1)))
        have hrm0 := fun v0 v1 => ((hrm.put (q := 0) (by simp) (.int .i64 v0)).put (q := 1) (by simp) (.int .i64 v1))
        have hTt0 := fun v0 v1 => htd.trans ((hts0 v0 v1).mono (T := fun b => lo ≤ b ∧ b < hi) (fun b hb => by omega))
        have hLl0 := fun v0 v1 => hL.turned codeO_keeps (hts0 v0 v1) (fun k h1 h2 h3 => by omega)
        have ho0_blocks := fun v0 v1 => blocks_o.turned blockO_keeps (hts0 v0 v1) (fun k h1 h2 h3 => by omega)
        have HTS0X := Lib.hid hts0
        clear hts0
        have HRM0X := Lib.hid hrm0
        clear hrm0
        have HTT0X := Lib.hid hTt0
        clear hTt0
        have HLL0X := Lib.hid hLl0
        clear hLl0
        have HO0_BLOCKSX := Lib.hid ho0_blocks
        clear ho0_blocks
        go_wp2_with fail
        refine (markBlockS_any m0 me blocks_a blocks.length blocks_c blocks _ _ (HO0_BLOCKSX.out _ _) rfl hsz_blocks (by omega) (by omega)).mono ?_
        rintro e w1 ⟨rfl, hT1⟩
        have hrmn1 := RowMid.turned (HRM0X.out _ _) hT1 (fun h => by omega)
        have hTd1 := Turned.trans (HTT0X.out _ _) (hT1.mono (T := fun b => lo ≤ b ∧ b < hi) (fun b hb => by omega))
        have hLn1 := ListOwn.turned codeO_keeps hT1 (HLL0X.out _ _) (fun k h1 h2 h3 => by omega)
        clear hz0_0 hz0_1 hz0_2 hy0_0 hy0_1 hT1
        have hts1 : Turned (fun k => k = g) w1 w1 := (Turned.refl (fun k => k = g) w1)
        have hrm1 := hrmn1
        have hTt1 := hTd1.trans ((hts1).mono (T := fun b => lo ≤ b ∧ b < hi) (fun b hb => by omega))
        have hLl1 := hLn1.turned codeO_keeps (hts1) (fun k h1 h2 h3 => by omega)
        have HTS1X := Lib.hid hts1
        clear hts1
        have HRM1X := Lib.hid hrm1
        clear hrm1
        have HTT1X := Lib.hid hTt1
        clear hTt1
        have HLL1X := Lib.hid hLl1
        clear hLl1
        clear hrmn1
        go_wp2
        go_roundg (gk - 1)
        case measure => omega
        case rel => exact ⟨j + 1, by omega, by go_num, int_val_eq (by have h1 := HC.out.1; have h2 := HK.out; omega), Lib.hid (MarkSt.step (by simp) h1 h2 HRM1X.out (m := me) (by omega) HLL1X.out HTT1X.out)⟩
      · obtain rfl : j = len := by omega
        have htk : xs.take j = xs := List.take_of_length_le (by have := HS.out.2; omega)
        have HT := Lib.hid htk
        clear htk
        go_wp2
        go_ret
        exact ⟨ret_int (by rw [HT.out]), HM.out.turned⟩

def cntUnitD (x : UnitD) : Nat := sumOf cntCodeD x.codes
theorem cntUnitD_le (x : UnitD) : cntUnitD x ≤ 5 * szUnitD x + 5 := by
  have h_codes := sumOf_le5 cntCodeD_le x.codes
  unfold cntUnitD szUnitD
  omega
theorem markUnit_any (lo hi : Nat) (cs : List Value) (x : UnitD) (k : Int) (w : World) (h : UnitO lo hi w cs x) (hs : szUnitD x ≤ 1048576) (hk0 : 0 ≤ k) (hk : k ≤ 1048576) :
    Calls Tryz.prog 11 #[.agg cs.toArray, .int .i64 k] w fun e w' => e = .returned (.int .i64 (k + (sumOf cntCodeD x.codes : Nat))) ∧ Turned (fun b => lo ≤ b ∧ b < hi) w w' := by
  obtain ⟨codes_a, codes_c, rfl, codes_o⟩ := h
  unfold szUnitD at hs
  have hcl := sumOf_le5 cntCodeD_le x.codes
  obtain ⟨codes⟩ := x
  simp only at hs hcl codes_o ⊢
  have hb0 : Below w.heap.size w (w.alloc (.cells #[.slice codes_a codes.length codes_c] 30)) := (Below.refl _ _).alloc (Nat.le_refl _) _
  have hT0 : Turned (fun b => lo ≤ b ∧ b < hi) w (w.alloc (.cells #[.slice codes_a codes.length codes_c] 30)) := turned_of_below hb0 (fun k h1 h2 => by omega)
  have ho := codes_o.turned codeO_keeps (S := fun _ => False) (turned_of_below hb0 (fun k h1 h2 => by omega)) (fun _ _ _ h => h)
  go_enter Tryz.func11, Tryz.ntmps11
  go_wp2_with fail
  refine (markCodeS_any lo hi codes_a codes.length codes_c codes k _ ho rfl hs hk0 (by omega)).mono ?_
  rintro e w1 ⟨rfl, hT1⟩
  go_wp2
  go_ret
  exact ⟨rfl, hT0.trans hT1⟩


end Go.Proofs.YtonlidgmfmgcmaaGreat
