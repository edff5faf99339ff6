
/-
  The laws' marks on data of the group Unit.
-/
import Derived.Test.YtonlidgmfmgcmaaGreatUnitOwn
import Derived.Test.YtonlidgmfmgcmaaGreatCore
import Derived.Test.YtonlidgmfmgcmaaGreatBase
import Derived.Deep.LoopGhost
namespace Go.Proofs.YtonlidgmfmgcmaaGreat
open Go.RowKit

theorem int_val_eq {a b : Int} (h : a = b) : Value.int .i64 a = .int .i64 b := by rw [h]
theorem markIntS_own (lo hi : Nat) (a : Option Addr) (len cap : Nat) (xs : List Int) (k : Int) (w : World) (h : IntsOwn 3 lo hi w a len cap xs) (hs : len ≤ 1099511627776) (hk0 : 0 ≤ k) (hk : k ≤ 1099511627776) :
    Calls Tryz.prog 12 #[.slice a len cap, .int .i64 k] w fun e w' => e = .returned (.int .i64 (k + len)) ∧ Turned (fun b => lo ≤ b ∧ b < hi) w w' :=
  (markIntS_any lo a len cap _ k w h.2.1 hs hk0 hk).mono (by
    rintro e w' ⟨rfl, _, hg⟩
    exact ⟨rfl, turned_of_grown hg (fun j hj => ⟨(h.2.1.lt j hj).1, h.2.2 j hj⟩)⟩)
def cntPhiD (x : PhiD) : Nat := 1 + x.args.length
theorem cntPhiD_le (x : PhiD) : cntPhiD x ≤ 5 * szPhiD x + 5 := by
  unfold cntPhiD szPhiD
  omega
set_option maxRecDepth 100000 in
set_option maxHeartbeats 2000000 in
theorem markPhiS_any (lo hi : Nat) (a : Option Addr) (len cap : Nat) (xs : List PhiD) (k : Int) (w : World) (h : SliceOwn 2 83 PhiO lo hi w a len cap xs) (hl : xs.length = len) (hs : szS szPhiD xs ≤ 1048576) (hk0 : 0 ≤ k) (hk : k + (sumOf cntPhiD xs : Nat) ≤ 1099511627776) :
    Calls Tryz.prog 70 #[.slice a len cap, .int .i64 k] w fun e w' => e = .returned (.int .i64 (k + (sumOf cntPhiD xs : Nat))) ∧ Turned (fun b => lo ≤ b ∧ b < hi) w w' := by
  have hlen : len ≤ 1048576 := by have := szS_len szPhiD xs; omega
  have hcase : (a = none ∧ len = 0 ∧ cap = 0) ∨ ∃ g, a = some ⟨g, 0, none⟩ ∧ lo ≤ g ∧ g < hi := by
    obtain ⟨cells, m, h1, h2, h3, h4, h5, h6⟩ := h
    rcases h2.2 with ⟨hv, h0⟩ | ⟨g, cap', cur, hv, hg, _⟩
    · simp only [Value.slice.injEq] at hv
      exact .inl hv
    · simp only [Value.slice.injEq] at hv
      obtain ⟨rfl, _⟩ := hv
      have := h3 g rfl
      have := h6.le phiO_keeps
      exact .inr ⟨g, rfl, hg, by omega⟩
  rcases hcase with ⟨rfl, rfl, rfl⟩ | ⟨g, rfl, hlg, hgh⟩
  · obtain rfl : xs = [] := List.length_eq_zero_iff.1 hl
    go_enter Tryz.func70, Tryz.ntmps70
    go_wp2
    refine wp_loop_rounds 1 ?_
    rw [rounds_succ]
    go_wp2
    go_ret
    exact ⟨ret_int (by simp [sumOf]), Turned.refl _ _⟩
  · have HM0 := Lib.hid (MarkSt.start h)
    have HS := Lib.hid (And.intro hs hl)
    clear h hs
    go_enter Tryz.func70, Tryz.ntmps70
    go_wp2
    go_loopg [1, 5] len (fun F c i wr => ∃ j : Nat, j + F = len ∧ i = .int .i64 j ∧ c = .int .i64 (k + (sumOf cntPhiD (xs.take j) : Nat)) ∧ Hid (MarkSt 2 83 PhiO lo hi g len cap xs w j wr))
    case atStart => exact ⟨0, by omega, rfl, int_val_eq (by simp [sumOf]), HM0⟩
    case round =>
      obtain ⟨j, hj, rfl, rfl, HM⟩ := hrel
      clear HM0
      by_cases hlt : j < len
      · obtain ⟨x, c, pre, cs, m0, me, hx, hcl, h1, h2, hrm, hgm, hR, hL⟩ := HM.out.next HS.out.2 hlt
        have hcnt : sumOf cntPhiD (xs.take (j + 1)) = sumOf cntPhiD (xs.take j) + cntPhiD x := by rw [take_succ_of hx, sumOf_snoc]
        have htot := sumOf_take cntPhiD xs (j + 1)
        have hz : szPhiD x ≤ 1048576 := Nat.le_trans (szS_mem (List.mem_of_getElem? hx)) HS.out.1
        have htd := HM.out.turned
        obtain ⟨args_a, args_c, rfl, args_o⟩ := hR
        obtain ⟨to, args⟩ := x
        simp only at args_o hrm
        rw [show cntPhiD ⟨to, args⟩ = 1 + args.length from rfl] at hcnt
        unfold szPhiD at hz
        simp only at hz
        have hle_args := args_o.1
        have hsz_args : args.length ≤ 1048576 := by omega
        have hLle := hL.le phiO_keeps
        have HC := Lib.hid (And.intro hcnt htot)
        have hKb : k + (sumOf cntPhiD (xs.take j) : Nat) + (1 + args.length : Nat) ≤ 1099511627776 := by omega
        have hK0 : 0 ≤ k + (sumOf cntPhiD (xs.take j) : Nat) := by omega
        clear hcnt htot hx hcl hz
        generalize hK : k + (sumOf cntPhiD (xs.take j) : Nat) = K at hKb hK0 ⊢
        have HK := Lib.hid hK
        clear hK
        have hz0_0 : World.cell? wr ⟨g, j * 2, none⟩ = some _ := hrm.cell (q := 0) rfl
        have hy0_0 : World.frozen? wr ⟨g, j * 2, none⟩ = false := hrm.frozen 0
        have hz0_1 : World.cell? wr ⟨g, j * 2 + 1, none⟩ = some (.slice args_a args.length args_c) := hrm.cell (q := 1) rfl
        have hts0 : ∀ v0 : Int, Turned (fun k => k = g) wr (World.setCell wr ⟨g, j * 2 + 0, none⟩ (.int .i64 v0)) := fun v0 => ((Turned.refl (fun k => k = g) wr).trans (turned_store _ g (j * 2 + 0) (.int .i64 v0)))
        have hrm0 := fun v0 => (hrm.put (q := 0) (by simp) (.int .i64 v0))
        have hTt0 := fun v0 => htd.trans ((hts0 v0).mono (T := fun b => lo ≤ b ∧ b < hi) (fun b hb => by omega))
        have hLl0 := fun v0 => hL.turned phiO_keeps (hts0 v0) (fun k h1 h2 h3 => by omega)
        have ho0_args := fun v0 => args_o.turned (hts0 v0) (fun k h1 h2 h3 => by omega)
        have HTS0X := Lib.hid hts0
        clear hts0
        have HRM0X := Lib.hid hrm0
        clear hrm0
        have HTT0X := Lib.hid hTt0
        clear hTt0
        have HLL0X := Lib.hid hLl0
        clear hLl0
        have HO0_ARGSX := Lib.hid ho0_args
        clear ho0_args
        go_wp2_with fail
        refine (markIntS_own m0 me args_a args.length args_c args _ _ (HO0_ARGSX.out _) (by omega) (by omega) (by omega)).mono ?_
        rintro e w1 ⟨rfl, hT1⟩
        have hrmn1 := RowMid.turned (HRM0X.out _) hT1 (fun h => by omega)
        have hTd1 := Turned.trans (HTT0X.out _) (hT1.mono (T := fun b => lo ≤ b ∧ b < hi) (fun b hb => by omega))
        have hLn1 := ListOwn.turned phiO_keeps hT1 (HLL0X.out _) (fun k h1 h2 h3 => by omega)
        clear hz0_0 hz0_1 hy0_0 hT1
        have hts1 : Turned (fun k => k = g) w1 w1 := (Turned.refl (fun k => k = g) w1)
        have hrm1 := hrmn1
        have hTt1 := hTd1.trans ((hts1).mono (T := fun b => lo ≤ b ∧ b < hi) (fun b hb => by omega))
        have hLl1 := hLn1.turned phiO_keeps (hts1) (fun k h1 h2 h3 => by omega)
        have HTS1X := Lib.hid hts1
        clear hts1
        have HRM1X := Lib.hid hrm1
        clear hrm1
        have HTT1X := Lib.hid hTt1
        clear hTt1
        have HLL1X := Lib.hid hLl1
        clear hLl1
        clear hrmn1
        go_wp2
        go_roundg (gk - 1)
        case measure => omega
        case rel => exact ⟨j + 1, by omega, by go_num, int_val_eq (by have h1 := HC.out.1; have h2 := HK.out; omega), Lib.hid (MarkSt.step (by simp) h1 h2 HRM1X.out (m := me) (by omega) HLL1X.out HTT1X.out)⟩
      · obtain rfl : j = len := by omega
        have htk : xs.take j = xs := List.take_of_length_le (by have := HS.out.2; omega)
        have HT := Lib.hid htk
        clear htk
        go_wp2
        go_ret
        exact ⟨ret_int (by rw [HT.out]), HM.out.turned⟩

def cntInsD (x : InsD) : Nat := 3 + x.args.length
theorem cntInsD_le (x : InsD) : cntInsD x ≤ 5 * szInsD x + 5 := by
  unfold cntInsD szInsD
  omega
set_option maxRecDepth 100000 in
set_option maxHeartbeats 2000000 in
theorem markInsS_any (lo hi : Nat) (a : Option Addr) (len cap : Nat) (xs : List InsD) (k : Int) (w : World) (h : SliceOwn 4 45 InsO lo hi w a len cap xs) (hl : xs.length = len) (hs : szS szInsD xs ≤ 1048576) (hk0 : 0 ≤ k) (hk : k + (sumOf cntInsD xs : Nat) ≤ 1099511627776) :
    Calls Tryz.prog 71 #[.slice a len cap, .int .i64 k] w fun e w' => e = .returned (.int .i64 (k + (sumOf cntInsD xs : Nat))) ∧ Turned (fun b => lo ≤ b ∧ b < hi) w w' := by
  have hlen : len ≤ 1048576 := by have := szS_len szInsD xs; omega
  have hcase : (a = none ∧ len = 0 ∧ cap = 0) ∨ ∃ g, a = some ⟨g, 0, none⟩ ∧ lo ≤ g ∧ g < hi := by
    obtain ⟨cells, m, h1, h2, h3, h4, h5, h6⟩ := h
    rcases h2.2 with ⟨hv, h0⟩ | ⟨g, cap', cur, hv, hg, _⟩
    · simp only [Value.slice.injEq] at hv
      exact .inl hv
    · simp only [Value.slice.injEq] at hv
      obtain ⟨rfl, _⟩ := hv
      have := h3 g rfl
      have := h6.le insO_keeps
      exact .inr ⟨g, rfl, hg, by omega⟩
  rcases hcase with ⟨rfl, rfl, rfl⟩ | ⟨g, rfl, hlg, hgh⟩
  · obtain rfl : xs = [] := List.length_eq_zero_iff.1 hl
    go_enter Tryz.func71, Tryz.ntmps71
    go_wp2
    refine wp_loop_rounds 1 ?_
    rw [rounds_succ]
    go_wp2
    go_ret
    exact ⟨ret_int (by simp [sumOf]), Turned.refl _ _⟩
  · have HM0 := Lib.hid (MarkSt.start h)
    have HS := Lib.hid (And.intro hs hl)
    clear h hs
    go_enter Tryz.func71, Tryz.ntmps71
    go_wp2
    go_loopg [1, 5] len (fun F c i wr => ∃ j : Nat, j + F = len ∧ i = .int .i64 j ∧ c = .int .i64 (k + (sumOf cntInsD (xs.take j) : Nat)) ∧ Hid (MarkSt 4 45 InsO lo hi g len cap xs w j wr))
    case atStart => exact ⟨0, by omega, rfl, int_val_eq (by simp [sumOf]), HM0⟩
    case round =>
      obtain ⟨j, hj, rfl, rfl, HM⟩ := hrel
      clear HM0
      by_cases hlt : j < len
      · obtain ⟨x, c, pre, cs, m0, me, hx, hcl, h1, h2, hrm, hgm, hR, hL⟩ := HM.out.next HS.out.2 hlt
        have hcnt : sumOf cntInsD (xs.take (j + 1)) = sumOf cntInsD (xs.take j) + cntInsD x := by rw [take_succ_of hx, sumOf_snoc]
        have htot := sumOf_take cntInsD xs (j + 1)
        have hz : szInsD x ≤ 1048576 := Nat.le_trans (szS_mem (List.mem_of_getElem? hx)) HS.out.1
        have htd := HM.out.turned
        obtain ⟨args_a, args_c, rfl, args_o⟩ := hR
        obtain ⟨op, to, args, num⟩ := x
        simp only at args_o hrm
        rw [show cntInsD ⟨op, to, args, num⟩ = 3 + args.length from rfl] at hcnt
        unfold szInsD at hz
        simp only at hz
        have hle_args := args_o.1
        have hsz_args : args.length ≤ 1048576 := by omega
        have hLle := hL.le insO_keeps
        have HC := Lib.hid (And.intro hcnt htot)
        have hKb : k + (sumOf cntInsD (xs.take j) : Nat) + (3 + args.length : Nat) ≤ 1099511627776 := by omega
        have hK0 : 0 ≤ k + (sumOf cntInsD (xs.take j) : Nat) := by omega
        clear hcnt htot hx hcl hz
        generalize hK : k + (sumOf cntInsD (xs.take j) : Nat) = K at hKb hK0 ⊢
        have HK := Lib.hid hK
        clear hK
        have hz0_0 : World.cell? wr ⟨g, j * 4, none⟩ = some _ := hrm.cell (q := 0) rfl
        have hy0_0 : World.frozen? wr ⟨g, j * 4, none⟩ = false := hrm.frozen 0
        have hz0_1 : World.cell? wr ⟨g, j * 4 + 1, none⟩ = some _ := hrm.cell (q := 1) rfl
        have hy0_1 : World.frozen? wr ⟨g, j * 4 + 1, none⟩ = false := hrm.frozen 1
        have hz0_2 : World.cell? wr ⟨g, j * 4 + 2, none⟩ = some (.slice args_a args.length args_c) := hrm.cell (q := 2) rfl
        have hts0 : ∀ v0 v1 : Int, Turned (fun k => k = g) wr (World.setCell (World.setCell wr ⟨g, j * 4 + 0, none⟩ (.int .i64 v0)) ⟨g, j * 4 + 1, none⟩ (.int .i64 v1)) := fun v0 v1 => (((Turned.refl (fun k => k = g) wr).trans (turned_store _ g (j * 4 + 0) (.int .i64 v0))).trans (turned_store _ g (j * 4 + 1) (.int .i64 v1)))
        have hrm0 := fun v0 v1 => ((hrm.put (q := 0) (by simp) (.int .i64 v0)).put (q := 1) (by simp) (.int .i64 v1))
        have hTt0 := fun v0 v1 => htd.trans ((hts0 v0 v1).mono (T := fun b => lo ≤ b ∧ b < hi) (fun b hb => by omega))
        have hLl0 := fun v0 v1 => hL.turned insO_keeps (hts0 v0 v1) (fun k h1 h2 h3 => by omega)
        have ho0_args := fun v0 v1 => args_o.turned (hts0 v0 v1) (fun k h1 h2 h3 => by omega)
        have HTS0X := Lib.hid hts0
        clear hts0
        have HRM0X := Lib.hid hrm0
        clear hrm0
        have HTT0X := Lib.hid hTt0
        clear hTt0
        have HLL0X := Lib.hid hLl0
        clear hLl0
        have HO0_ARGSX := Lib.hid ho0_args
        clear ho0_args
        go_wp2_with fail
        refine (markIntS_own m0 me args_a args.length args_c args _ _ (HO0_ARGSX.out _ _) (by omega) (by omega) (by omega)).mono ?_
        rintro e w1 ⟨rfl, hT1⟩
        have hrmn1 := RowMid.turned (HRM0X.out _ _) hT1 (fun h => by omega)
        have hTd1 := Turned.trans (HTT0X.out _ _) (hT1.mono (T := fun b => lo ≤ b ∧ b < hi) (fun b hb => by omega))
        have hLn1 := ListOwn.turned insO_keeps hT1 (HLL0X.out _ _) (fun k h1 h2 h3 => by omega)
        clear hz0_0 hz0_1 hz0_2 hy0_0 hy0_1 hT1
        have hz1_3 : World.cell? w1 ⟨g, j * 4 + 3, none⟩ = some _ := hrmn1.cell (q := 3) rfl
        have hy1_3 : World.frozen? w1 ⟨g, j * 4 + 3, none⟩ = false := hrmn1.frozen 3
        have hts1 : ∀ v3 : Int, Turned (fun k => k = g) w1 (World.setCell w1 ⟨g, j * 4 + 3, none⟩ (.int .i64 v3)) := fun v3 => ((Turned.refl (fun k => k = g) w1).trans (turned_store _ g (j * 4 + 3) (.int .i64 v3)))
        have hrm1 := fun v3 => (hrmn1.put (q := 3) (by simp) (.int .i64 v3))
        have hTt1 := fun v3 => hTd1.trans ((hts1 v3).mono (T := fun b => lo ≤ b ∧ b < hi) (fun b hb => by omega))
        have hLl1 := fun v3 => hLn1.turned insO_keeps (hts1 v3) (fun k h1 h2 h3 => by omega)
        have HTS1X := Lib.hid hts1
        clear hts1
        have HRM1X := Lib.hid hrm1
        clear hrm1
        have HTT1X := Lib.hid hTt1
        clear hTt1
        have HLL1X := Lib.hid hLl1
        clear hLl1
        clear hrmn1
        go_wp2
        go_roundg (gk - 1)
        case measure => omega
        case rel => exact ⟨j + 1, by omega, by go_num, int_val_eq (by have h1 := HC.out.1; have h2 := HK.out; omega), Lib.hid (MarkSt.step (by simp) h1 h2 (HRM1X.out _) (m := me) (by omega) (HLL1X.out _) (HTT1X.out _))⟩
      · obtain rfl : j = len := by omega
        have htk : xs.take j = xs := List.take_of_length_le (by have := HS.out.2; omega)
        have HT := Lib.hid htk
        clear htk
        go_wp2
        go_ret
        exact ⟨ret_int (by rw [HT.out]), HM.out.turned⟩

def cntBlockD (x : BlockD) : Nat := 2 + sumOf cntPhiD x.phis + sumOf cntInsD x.ins + x.nx.length
theorem cntBlockD_le (x : BlockD) : cntBlockD x ≤ 5 * szBlockD x + 5 := by
  have h_phis := sumOf_le5 cntPhiD_le x.phis
  have h_ins := sumOf_le5 cntInsD_le x.ins
  unfold cntBlockD szBlockD
  omega
set_option maxRecDepth 100000 in
set_option maxHeartbeats 2000000 in
theorem markBlockS_any (lo hi : Nat) (a : Option Addr) (len cap : Nat) (xs : List BlockD) (k : Int) (w : World) (h : SliceOwn 5 49 BlockO lo hi w a len cap xs) (hl : xs.length = len) (hs : szS szBlockD xs ≤ 1048576) (hk0 : 0 ≤ k) (hk : k + (sumOf cntBlockD xs : Nat) ≤ 1099511627776) :
    Calls Tryz.prog 47 #[.slice a len cap, .int .i64 k] w fun e w' => e = .returned (.int .i64 (k + (sumOf cntBlockD xs : Nat))) ∧ Turned (fun b => lo ≤ b ∧ b < hi) w w' := by
  have hlen : len ≤ 1048576 := by have := szS_len szBlockD xs; omega
  have hcase : (a = none ∧ len = 0 ∧ cap = 0) ∨ ∃ g, a = some ⟨g, 0, none⟩ ∧ lo ≤ g ∧ g < hi := by
    obtain ⟨cells, m, h1, h2, h3, h4, h5, h6⟩ := h
    rcases h2.2 with ⟨hv, h0⟩ | ⟨g, cap', cur, hv, hg, _⟩
    · simp only [Value.slice.injEq] at hv
      exact .inl hv
    · simp only [Value.slice.injEq] at hv
      obtain ⟨rfl, _⟩ := hv
      have := h3 g rfl
      have := h6.le blockO_keeps
      exact .inr ⟨g, rfl, hg, by omega⟩
  rcases hcase with ⟨rfl, rfl, rfl⟩ | ⟨g, rfl, hlg, hgh⟩
  · obtain rfl : xs = [] := List.length_eq_zero_iff.1 hl
    go_enter Tryz.func47, Tryz.ntmps47
    go_wp2
    refine wp_loop_rounds 1 ?_
    rw [rounds_succ]
    go_wp2
    go_ret
    exact ⟨ret_int (by simp [sumOf]), Turned.refl _ _⟩
  · have HM0 := Lib.hid (MarkSt.start h)
    have HS := Lib.hid (And.intro hs hl)
    clear h hs
    go_enter Tryz.func47, Tryz.ntmps47
    go_wp2
    go_loopg [1, 5] len (fun F c i wr => ∃ j : Nat, j + F = len ∧ i = .int .i64 j ∧ c = .int .i64 (k + (sumOf cntBlockD (xs.take j) : Nat)) ∧ Hid (MarkSt 5 49 BlockO lo hi g len cap xs w j wr))
    case atStart => exact ⟨0, by omega, rfl, int_val_eq (by simp [sumOf]), HM0⟩
    case round =>
      obtain ⟨j, hj, rfl, rfl, HM⟩ := hrel
      clear HM0
      by_cases hlt : j < len
      · obtain ⟨x, c, pre, cs, m0, me, hx, hcl, h1, h2, hrm, hgm, hR, hL⟩ := HM.out.next HS.out.2 hlt
        have hcnt : sumOf cntBlockD (xs.take (j + 1)) = sumOf cntBlockD (xs.take j) + cntBlockD x := by rw [take_succ_of hx, sumOf_snoc]
        have htot := sumOf_take cntBlockD xs (j + 1)
        have hz : szBlockD x ≤ 1048576 := Nat.le_trans (szS_mem (List.mem_of_getElem? hx)) HS.out.1
        have htd := HM.out.turned
        obtain ⟨phis_a, phis_c, ins_a, ins_c, nx_a, nx_c, m1, m2, rfl, phis_o, ins_o, nx_o⟩ := hR
        obtain ⟨phis, ins, jump, jon, nx⟩ := x
        simp only at phis_o ins_o nx_o hrm
        rw [show cntBlockD ⟨phis, ins, jump, jon, nx⟩ = 2 + sumOf cntPhiD phis + sumOf cntInsD ins + nx.length from rfl] at hcnt
        unfold szBlockD at hz
        simp only at hz
        have hle_phis := (phis_o.le phiO_keeps)
        have hsz_phis : szS szPhiD phis ≤ 1048576 := by omega
        have hle_ins := (ins_o.le insO_keeps)
        have hsz_ins : szS szInsD ins ≤ 1048576 := by omega
        have hle_nx := nx_o.1
        have hsz_nx : nx.length ≤ 1048576 := by omega
        have hLle := hL.le blockO_keeps
        have HC := Lib.hid (And.intro hcnt htot)
        have hKb : k + (sumOf cntBlockD (xs.take j) : Nat) + (2 + sumOf cntPhiD phis + sumOf cntInsD ins + nx.length : Nat) ≤ 1099511627776 := by omega
        have hK0 : 0 ≤ k + (sumOf cntBlockD (xs.take j) : Nat) := by omega
        clear hcnt htot hx hcl hz
        generalize hK : k + (sumOf cntBlockD (xs.take j) : Nat) = K at hKb hK0 ⊢
        have HK := Lib.hid hK
        clear hK
        have hz0_0 : World.cell? wr ⟨g, j * 5, none⟩ = some (.slice phis_a phis.length phis_c) := hrm.cell (q := 0) rfl
        have hts0 : Turned (fun k => k = g) wr wr := (Turned.refl (fun k => k = g) wr)
        have hrm0 := hrm
        have hTt0 := htd.trans ((hts0).mono (T := fun b => lo ≤ b ∧ b < hi) (fun b hb => by omega))
        have hLl0 := hL.turned blockO_keeps (hts0) (fun k h1 h2 h3 => by omega)
        have ho0_phis := phis_o.turned phiO_keeps (hts0) (fun k h1 h2 h3 => by omega)
        have ho0_ins := ins_o.turned insO_keeps (hts0) (fun k h1 h2 h3 => by omega)
        have ho0_nx := nx_o.turned (hts0) (fun k h1 h2 h3 => by omega)
        have HTS0X := Lib.hid hts0
        clear hts0
        have HRM0X := Lib.hid hrm0
        clear hrm0
        have HTT0X := Lib.hid hTt0
        clear hTt0
        have HLL0X := Lib.hid hLl0
        clear hLl0
        have HO0_PHISX := Lib.hid ho0_phis
        clear ho0_phis
        have HO0_INSX := Lib.hid ho0_ins
        clear ho0_ins
        have HO0_NXX := Lib.hid ho0_nx
        clear ho0_nx
        go_wp2_with fail
        refine (markPhiS_any m0 m1 phis_a phis.length phis_c phis _ _ HO0_PHISX.out rfl hsz_phis (by omega) (by omega)).mono ?_
        rintro e w1 ⟨rfl, hT1⟩
        have hrmn1 := RowMid.turned HRM0X.out hT1 (fun h => by omega)
        have hTd1 := Turned.trans HTT0X.out (hT1.mono (T := fun b => lo ≤ b ∧ b < hi) (fun b hb => by omega))
        have hLn1 := ListOwn.turned blockO_keeps hT1 HLL0X.out (fun k h1 h2 h3 => by omega)
        have hon1_ins := SliceOwn.turned insO_keeps HO0_INSX.out hT1 (fun k h1 h2 h3 => by omega)
        have hon1_nx := IntsOwn.turned HO0_NXX.out hT1 (fun k h1 h2 h3 => by omega)
        clear hz0_0 hT1
        have hz1_1 : World.cell? w1 ⟨g, j * 5 + 1, none⟩ = some (.slice ins_a ins.length ins_c) := hrmn1.cell (q := 1) rfl
        have hts1 : Turned (fun k => k = g) w1 w1 := (Turned.refl (fun k => k = g) w1)
        have hrm1 := hrmn1
        have hTt1 := hTd1.trans ((hts1).mono (T := fun b => lo ≤ b ∧ b < hi) (fun b hb => by omega))
        have hLl1 := hLn1.turned blockO_keeps (hts1) (fun k h1 h2 h3 => by omega)
        have ho1_ins := hon1_ins.turned insO_keeps (hts1) (fun k h1 h2 h3 => by omega)
        have ho1_nx := hon1_nx.turned (hts1) (fun k h1 h2 h3 => by omega)
        have HTS1X := Lib.hid hts1
        clear hts1
        have HRM1X := Lib.hid hrm1
        clear hrm1
        have HTT1X := Lib.hid hTt1
        clear hTt1
        have HLL1X := Lib.hid hLl1
        clear hLl1
        have HO1_INSX := Lib.hid ho1_ins
        clear ho1_ins
        have HO1_NXX := Lib.hid ho1_nx
        clear ho1_nx
        go_wp2_with fail
        refine (markInsS_any m1 m2 ins_a ins.length ins_c ins _ _ HO1_INSX.out rfl hsz_ins (by omega) (by omega)).mono ?_
        rintro e w2 ⟨rfl, hT2⟩
        have hrmn2 := RowMid.turned HRM1X.out hT2 (fun h => by omega)
        have hTd2 := Turned.trans HTT1X.out (hT2.mono (T := fun b => lo ≤ b ∧ b < hi) (fun b hb => by omega))
        have hLn2 := ListOwn.turned blockO_keeps hT2 HLL1X.out (fun k h1 h2 h3 => by omega)
        have hon2_nx := IntsOwn.turned HO1_NXX.out hT2 (fun k h1 h2 h3 => by omega)
        clear hz1_1 hT2
        have hz2_2 : World.cell? w2 ⟨g, j * 5 + 2, none⟩ = some _ := hrmn2.cell (q := 2) rfl
        have hy2_2 : World.frozen? w2 ⟨g, j * 5 + 2, none⟩ = false := hrmn2.frozen 2
        have hz2_3 : World.cell? w2 ⟨g, j * 5 + 3, none⟩ = some _ := hrmn2.cell (q := 3) rfl
        have hy2_3 : World.frozen? w2 ⟨g, j * 5 + 3, none⟩ = false := hrmn2.frozen 3
        have hz2_4 : World.cell? w2 ⟨g, j * 5 + 4, none⟩ = some (.slice nx_a nx.length nx_c) := hrmn2.cell (q := 4) rfl
        have hts2 : ∀ v2 v3 : Int, Turned (fun k => k = g) w2 (World.setCell (World.setCell w2 ⟨g, j * 5 + 2, none⟩ (.int .i64 v2)) ⟨g, j * 5 + 3, none⟩ (.int .i64 v3)) := fun v2 v3 => (((Turned.refl (fun k => k = g) w2).trans (turned_store _ g (j * 5 + 2) (.int .i64 v2))).trans (turned_store _ g (j * 5 + 3) (.int .i64 v3)))
        have hrm2 := fun v2 v3 => ((hrmn2.put (q := 2) (by simp) (.int .i64 v2)).put (q := 3) (by simp) (.int .i64 v3))
        have hTt2 := fun v2 v3 => hTd2.trans ((hts2 v2 v3).mono (T := fun b => lo ≤ b ∧ b < hi) (fun b hb => by omega))
        have hLl2 := fun v2 v3 => hLn2.turned blockO_keeps (hts2 v2 v3) (fun k h1 h2 h3 => by omega)
        have ho2_nx := fun v2 v3 => hon2_nx.turned (hts2 v2 v3) (fun k h1 h2 h3 => by omega)
        have HTS2X := Lib.hid hts2
        clear hts2
        have HRM2X := Lib.hid hrm2
        clear hrm2
        have HTT2X := Lib.hid hTt2
        clear hTt2
        have HLL2X := Lib.hid hLl2
        clear hLl2
        have HO2_NXX := Lib.hid ho2_nx
        clear ho2_nx
        go_wp2_with fail
        refine (markIntS_own m2 me nx_a nx.length nx_c nx _ _ (HO2_NXX.out _ _) (by omega) (by omega) (by omega)).mono ?_
        rintro e w3 ⟨rfl, hT3⟩
        have hrmn3 := RowMid.turned (HRM2X.out _ _) hT3 (fun h => by omega)
        have hTd3 := Turned.trans (HTT2X.out _ _) (hT3.mono (T := fun b => lo ≤ b ∧ b < hi) (fun b hb => by omega))
        have hLn3 := ListOwn.turned blockO_keeps hT3 (HLL2X.out _ _) (fun k h1 h2 h3 => by omega)
        clear hz2_2 hz2_3 hz2_4 hy2_2 hy2_3 hT3
        have hts3 : Turned (fun k => k = g) w3 w3 := (Turned.refl (fun k => k = g) w3)
        have hrm3 := hrmn3
        have hTt3 := hTd3.trans ((hts3).mono (T := fun b => lo ≤ b ∧ b < hi) (fun b hb => by omega))
        have hLl3 := hLn3.turned blockO_keeps (hts3) (fun k h1 h2 h3 => by omega)
        have HTS3X := Lib.hid hts3
        clear hts3
        have HRM3X := Lib.hid hrm3
        clear hrm3
        have HTT3X := Lib.hid hTt3
        clear hTt3
        have HLL3X := Lib.hid hLl3
        clear hLl3
        clear hrmn3
        go_wp2
        go_roundg (gk - 1)
        case measure => omega
        case rel => exact ⟨j + 1, by omega, by go_num, int_val_eq (by have h1 := HC.out.1; have h2 := HK.out; omega), Lib.hid (MarkSt.step (by simp) h1 h2 HRM3X.out (m := me) (by omega) HLL3X.out HTT3X.out)⟩
      · obtain rfl : j = len := by omega
        have htk : xs.take j = xs := List.take_of_length_le (by have := HS.out.2; omega)
        have HT := Lib.hid htk
        clear htk
        go_wp2
        go_ret
        exact ⟨ret_int (by rw [HT.out]), HM.out.turned⟩

def cntCodeD (x : CodeD) : Nat := 2 + sumOf cntBlockD x.blocks
theorem cntCodeD_le (x : CodeD) : cntCodeD x ≤ 5 * szCodeD x + 5 := by
  have h_blocks := sumOf_le5 cntBlockD_le x.blocks
  unfold cntCodeD szCodeD
  omega
end Go.Proofs.YtonlidgmfmgcmaaGreat
