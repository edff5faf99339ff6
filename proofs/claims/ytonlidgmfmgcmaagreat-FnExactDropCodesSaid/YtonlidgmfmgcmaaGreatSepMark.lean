
/-
  Marks on units whose memory is told by sets of blocks: they leave running numbers.
-/
import Derived.Test.YtonlidgmfmgcmaaGreatSep
import Derived.Deep.LoopGhost
namespace Go.Proofs.YtonlidgmfmgcmaaGreat
open Go.RowKit
set_option linter.unusedVariables false

theorem markIntS_set (S : Nat → Prop) (a : Option Addr) (len cap : Nat) (xs : List Int) (k : Int) (w : World) (h : IntsK S w a len cap xs) (hs : len ≤ 1099511627776) (hk0 : 0 ≤ k) (hk : k ≤ 1099511627776) :
    Calls Tryz.prog 12 #[.slice a len cap, .int .i64 k] w fun e w' => e = .returned (.int .i64 (k + len)) ∧ IntsK S w' a len cap (run k len) ∧ Turned S w w' :=
  (markIntS_any 0 a len cap _ k w h.1 hs hk0 hk).mono (by
    rintro e w' ⟨rfl, ho, hg⟩
    exact ⟨rfl, ⟨ho, h.2.1, run_length _ _⟩, turned_of_grown hg (fun j hj => h.2.1 j hj)⟩)
def renPhi (k : Int) (x : PhiD) : PhiD := ⟨k, run (k + 1) x.args.length⟩
def renIns (k : Int) (x : InsD) : InsD := ⟨k, k + 1, run (k + 1 + 1) x.args.length, k + 1 + 1 + (x.args.length : Int)⟩
def renBlock (k : Int) (x : BlockD) : BlockD := ⟨renS cntPhiD renPhi (k) x.phis, renS cntInsD renIns (k + (sumOf cntPhiD x.phis : Nat)) x.ins, k + (sumOf cntPhiD x.phis : Nat) + (sumOf cntInsD x.ins : Nat), k + (sumOf cntPhiD x.phis : Nat) + (sumOf cntInsD x.ins : Nat) + 1, run (k + (sumOf cntPhiD x.phis : Nat) + (sumOf cntInsD x.ins : Nat) + 1 + 1) x.nx.length⟩
def renCode (k : Int) (x : CodeD) : CodeD := ⟨k, k + 1, renS cntBlockD renBlock (k + 1 + 1) x.blocks⟩
set_option maxRecDepth 100000 in
set_option maxHeartbeats 2000000 in
theorem markPhiS_set (S : Nat → Prop) (a : Option Addr) (len cap : Nat) (xs : List PhiD) (k : Int) (w : World) (h : SepK 2 83 PhiK S w a len cap xs) (hs : szS szPhiD xs ≤ 1048576) (hk0 : 0 ≤ k) (hk : k + (sumOf cntPhiD xs : Nat) ≤ 1099511627776) :
    Calls Tryz.prog 70 #[.slice a len cap, .int .i64 k] w fun e w' => e = .returned (.int .i64 (k + (sumOf cntPhiD xs : Nat))) ∧ SepK 2 83 PhiK S w' a len cap (renS cntPhiD renPhi k xs) ∧ Turned S w w' := by
  have hl := h.length
  have hlen : len ≤ 1048576 := by have := szS_len szPhiD xs; omega
  rcases h.case with ⟨rfl, rfl, rfl⟩ | ⟨g, rfl⟩
  · obtain rfl : xs = [] := List.length_eq_zero_iff.1 hl
    go_enter Tryz.func70, Tryz.ntmps70
    go_wp2
    refine wp_loop_rounds 1 ?_
    rw [rounds_succ]
    go_wp2
    go_ret
    exact ⟨ret_int (by simp [sumOf]), SepK.nil, Turned.refl _ _⟩
  · have HM0 := Lib.hid (show SepK 2 83 PhiK S w (some ⟨g, 0, none⟩) len cap (half cntPhiD renPhi k xs 0) ∧ Turned S w w from ⟨by rw [half_start]; exact h, Turned.refl _ _⟩)
    have HS := Lib.hid (And.intro hs hl)
    clear h hs hl
    go_enter Tryz.func70, Tryz.ntmps70
    go_wp2
    go_loopg [1, 5] len (fun F c i wr => ∃ j : Nat, j + F = len ∧ i = .int .i64 j ∧ c = .int .i64 (k + (sumOf cntPhiD (xs.take j) : Nat)) ∧ Hid (SepK 2 83 PhiK S wr (some ⟨g, 0, none⟩) len cap (half cntPhiD renPhi k xs j) ∧ Turned S w wr))
    case atStart => exact ⟨0, by omega, rfl, int_val_eq (by simp [sumOf]), HM0⟩
    case round =>
      obtain ⟨j, hj, rfl, rfl, HM⟩ := hrel
      clear HM0
      by_cases hlt : j < len
      · obtain ⟨x, pre, d, post, F, hx, hcl, hrm, hR, hF0, hSg0, hput⟩ := HM.out.1.at phiK_sets hlt
        rw [half_get (by have := HS.out.2; omega)] at hx
        have HF := Lib.hid hF0
        have HSG := Lib.hid hSg0
        have HPUT := Lib.hid hput
        have HX := Lib.hid hx
        have hcnt : sumOf cntPhiD (xs.take (j + 1)) = sumOf cntPhiD (xs.take j) + cntPhiD x := by rw [take_succ_of hx, sumOf_snoc]
        have htot := sumOf_take cntPhiD xs (j + 1)
        have hz : szPhiD x ≤ 1048576 := Nat.le_trans (szS_mem (List.mem_of_getElem? hx)) HS.out.1
        clear hF0 hSg0 hput
        obtain ⟨args_a, args_c, rfl, args_o⟩ := hR
        obtain ⟨to, args⟩ := x
        simp only at args_o hrm
        rw [show cntPhiD ⟨to, args⟩ = 1 + args.length from rfl] at hcnt
        unfold szPhiD at hz
        simp only at hz
        have hsz_args : args.length ≤ 1048576 := by omega
        have HC := Lib.hid (And.intro hcnt htot)
        have hKb : k + (sumOf cntPhiD (xs.take j) : Nat) + (1 + args.length : Nat) ≤ 1099511627776 := by omega
        have hK0 : 0 ≤ k + (sumOf cntPhiD (xs.take j) : Nat) := by omega
        clear hcnt htot hx hcl hz
        generalize hK : k + (sumOf cntPhiD (xs.take j) : Nat) = K at hKb hK0 ⊢
        have HK := Lib.hid hK
        clear hK
        have hz0_0 : World.cell? wr ⟨g, j * 2, none⟩ = some _ := hrm.cell (q := 0) rfl
        have hy0_0 : World.frozen? wr ⟨g, j * 2, none⟩ = false := hrm.frozen 0
        have hz0_1 : World.cell? wr ⟨g, j * 2 + 1, none⟩ = some (.slice args_a args.length args_c) := hrm.cell (q := 1) rfl
        have hts0 : ∀ v0 : Int, Turned (fun k => k = g) wr (World.setCell wr ⟨g, j * 2 + 0, none⟩ (.int .i64 v0)) := fun v0 => ((Turned.refl (fun k => k = g) wr).trans (turned_store _ g (j * 2 + 0) (.int .i64 v0)))
        have hrm0 := fun v0 => (hrm.put (q := 0) (by simp) (.int .i64 v0))
        have hTt0 := fun v0 => (Turned.refl (fun k => k = g ∨ F k) wr).trans ((hts0 v0).mono (T := fun k => k = g ∨ F k) (fun k hk => .inl hk))
        have ho0_args := fun v0 => args_o.turned (hts0 v0) (fun k _ h1 h2 => (HF.out k h1).2 h2)
        have HTS0X := Lib.hid hts0
        clear hts0
        have HRM0X := Lib.hid hrm0
        clear hrm0
        have HTT0X := Lib.hid hTt0
        clear hTt0
        have HO0_ARGSX := Lib.hid ho0_args
        clear ho0_args
        go_wp2_with fail
        refine (markIntS_set F args_a args.length args_c args _ _ (HO0_ARGSX.out _) (by omega) (by omega) (by omega)).mono ?_
        rintro e w1 ⟨rfl, hN1, hT1⟩
        have hrmn1 := RowMid.turned (HRM0X.out _) hT1 (fun h => (HF.out g h).2 rfl)
        have hTd1 := Turned.trans (HTT0X.out _) (hT1.mono (T := fun k => k = g ∨ F k) (fun k hk => .inr hk))
        clear hz0_0 hz0_1 hy0_0 hT1
        have hts1 : Turned (fun k => k = g) w1 w1 := (Turned.refl (fun k => k = g) w1)
        have hrm1 := hrmn1
        have hTt1 := hTd1.trans (hts1.mono (T := fun k => k = g ∨ F k) (fun k hk => .inl hk))
        have ho1_args := hN1.turned hts1 (fun k _ h1 h2 => (HF.out k h1).2 h2)
        have HTS1X := Lib.hid hts1
        clear hts1
        have HRM1X := Lib.hid hrm1
        clear hrm1
        have HTT1X := Lib.hid hTt1
        clear hTt1
        have HO1_ARGSX := Lib.hid ho1_args
        clear ho1_args
        clear hrmn1
        go_wp2
        go_roundg (gk - 1)
        case measure => omega
        case rel =>
          refine ⟨j + 1, by omega, by go_num, int_val_eq (by have h1 := HC.out.1; have h2 := HK.out; omega), Lib.hid ⟨?_, HM.out.2.trans (HTT1X.out.mono (fun k hk => hk.elim (fun e => e ▸ HSG.out) (fun h => (HF.out k h).1)))⟩⟩
          rw [← half_set HX.out, HK.out]
          refine HPUT.out _ _ _ HTT1X.out HRM1X.out (by simp) ⟨args_a, args_c, ?_, ?_⟩
          · simp [renPhi, run_length]
          · simpa [renPhi, run_length] using HO1_ARGSX.out
      · obtain rfl : j = len := by omega
        have hfin := HM.out.1
        rw [half_end HS.out.2] at hfin
        have HFIN := Lib.hid hfin
        have htk : xs.take j = xs := List.take_of_length_le (by have := HS.out.2; omega)
        have HT := Lib.hid htk
        clear htk hfin
        go_wp2
        go_ret
        exact ⟨ret_int (by rw [HT.out]), HFIN.out, HM.out.2⟩

set_option maxRecDepth 100000 in
set_option maxHeartbeats 2000000 in
theorem markInsS_set (S : Nat → Prop) (a : Option Addr) (len cap : Nat) (xs : List InsD) (k : Int) (w : World) (h : SepK 4 45 InsK S w a len cap xs) (hs : szS szInsD xs ≤ 1048576) (hk0 : 0 ≤ k) (hk : k + (sumOf cntInsD xs : Nat) ≤ 1099511627776) :
    Calls Tryz.prog 71 #[.slice a len cap, .int .i64 k] w fun e w' => e = .returned (.int .i64 (k + (sumOf cntInsD xs : Nat))) ∧ SepK 4 45 InsK S w' a len cap (renS cntInsD renIns k xs) ∧ Turned S w w' := by
  have hl := h.length
  have hlen : len ≤ 1048576 := by have := szS_len szInsD xs; omega
  rcases h.case with ⟨rfl, rfl, rfl⟩ | ⟨g, rfl⟩
  · obtain rfl : xs = [] := List.length_eq_zero_iff.1 hl
    go_enter Tryz.func71, Tryz.ntmps71
    go_wp2
    refine wp_loop_rounds 1 ?_
    rw [rounds_succ]
    go_wp2
    go_ret
    exact ⟨ret_int (by simp [sumOf]), SepK.nil, Turned.refl _ _⟩
  · have HM0 := Lib.hid (show SepK 4 45 InsK S w (some ⟨g, 0, none⟩) len cap (half cntInsD renIns k xs 0) ∧ Turned S w w from ⟨by rw [half_start]; exact h, Turned.refl _ _⟩)
    have HS := Lib.hid (And.intro hs hl)
    clear h hs hl
    go_enter Tryz.func71, Tryz.ntmps71
    go_wp2
    go_loopg [1, 5] len (fun F c i wr => ∃ j : Nat, j + F = len ∧ i = .int .i64 j ∧ c = .int .i64 (k + (sumOf cntInsD (xs.take j) : Nat)) ∧ Hid (SepK 4 45 InsK S wr (some ⟨g, 0, none⟩) len cap (half cntInsD renIns k xs j) ∧ Turned S w wr))
    case atStart => exact ⟨0, by omega, rfl, int_val_eq (by simp [sumOf]), HM0⟩
    case round =>
      obtain ⟨j, hj, rfl, rfl, HM⟩ := hrel
      clear HM0
      by_cases hlt : j < len
      · obtain ⟨x, pre, d, post, F, hx, hcl, hrm, hR, hF0, hSg0, hput⟩ := HM.out.1.at insK_sets hlt
        rw [half_get (by have := HS.out.2; omega)] at hx
        have HF := Lib.hid hF0
        have HSG := Lib.hid hSg0
        have HPUT := Lib.hid hput
        have HX := Lib.hid hx
        have hcnt : sumOf cntInsD (xs.take (j + 1)) = sumOf cntInsD (xs.take j) + cntInsD x := by rw [take_succ_of hx, sumOf_snoc]
        have htot := sumOf_take cntInsD xs (j + 1)
        have hz : szInsD x ≤ 1048576 := Nat.le_trans (szS_mem (List.mem_of_getElem? hx)) HS.out.1
        clear hF0 hSg0 hput
        obtain ⟨args_a, args_c, rfl, args_o⟩ := hR
        obtain ⟨op, to, args, num⟩ := x
        simp only at args_o hrm
        rw [show cntInsD ⟨op, to, args, num⟩ = 3 + args.length from rfl] at hcnt
        unfold szInsD at hz
        simp only at hz
        have hsz_args : args.length ≤ 1048576 := by omega
        have HC := Lib.hid (And.intro hcnt htot)
        have hKb : k + (sumOf cntInsD (xs.take j) : Nat) + (3 + args.length : Nat) ≤ 1099511627776 := by omega
        have hK0 : 0 ≤ k + (sumOf cntInsD (xs.take j) : Nat) := by omega
        clear hcnt htot hx hcl hz
        generalize hK : k + (sumOf cntInsD (xs.take j) : Nat) = K at hKb hK0 ⊢
        have HK := Lib.hid hK
        clear hK
        have hz0_0 : World.cell? wr ⟨g, j * 4, none⟩ = some _ := hrm.cell (q := 0) rfl
        have hy0_0 : World.frozen? wr ⟨g, j * 4, none⟩ = false := hrm.frozen 0
        have hz0_1 : World.cell? wr ⟨g, j * 4 + 1, none⟩ = some _ := hrm.cell (q := 1) rfl
        have hy0_1 : World.frozen? wr ⟨g, j * 4 + 1, none⟩ = false := hrm.frozen 1
        have hz0_2 : World.cell? wr ⟨g, j * 4 + 2, none⟩ = some (.slice args_a args.length args_c) := hrm.cell (q := 2) rfl
        have hts0 : ∀ v0 v1 : Int, Turned (fun k => k = g) wr (World.setCell (World.setCell wr ⟨g, j * 4 + 0, none⟩ (.int .i64 v0)) ⟨g, j * 4 + 1, none⟩ (.int .i64 v1)) := fun v0 v1 => (((Turned.refl (fun k => k = g) wr).trans (turned_store _ g (j * 4 + 0) (.int .i64 v0))).trans (turned_store _ g (j * 4 + 1) (.int .i64 v1)))
        have hrm0 := fun v0 v1 => ((hrm.put (q := 0) (by simp) (.int .i64 v0)).put (q := 1) (by simp) (.int .i64 v1))
        have hTt0 := fun v0 v1 => (Turned.refl (fun k => k = g ∨ F k) wr).trans ((hts0 v0 v1).mono (T := fun k => k = g ∨ F k) (fun k hk => .inl hk))
        have ho0_args := fun v0 v1 => args_o.turned (hts0 v0 v1) (fun k _ h1 h2 => (HF.out k h1).2 h2)
        have HTS0X := Lib.hid hts0
        clear hts0
        have HRM0X := Lib.hid hrm0
        clear hrm0
        have HTT0X := Lib.hid hTt0
        clear hTt0
        have HO0_ARGSX := Lib.hid ho0_args
        clear ho0_args
        go_wp2_with fail
        refine (markIntS_set F args_a args.length args_c args _ _ (HO0_ARGSX.out _ _) (by omega) (by omega) (by omega)).mono ?_
        rintro e w1 ⟨rfl, hN1, hT1⟩
        have hrmn1 := RowMid.turned (HRM0X.out _ _) hT1 (fun h => (HF.out g h).2 rfl)
        have hTd1 := Turned.trans (HTT0X.out _ _) (hT1.mono (T := fun k => k = g ∨ F k) (fun k hk => .inr hk))
        clear hz0_0 hz0_1 hz0_2 hy0_0 hy0_1 hT1
        have hz1_3 : World.cell? w1 ⟨g, j * 4 + 3, none⟩ = some _ := hrmn1.cell (q := 3) rfl
        have hy1_3 : World.frozen? w1 ⟨g, j * 4 + 3, none⟩ = false := hrmn1.frozen 3
        have hts1 : ∀ v3 : Int, Turned (fun k => k = g) w1 (World.setCell w1 ⟨g, j * 4 + 3, none⟩ (.int .i64 v3)) := fun v3 => ((Turned.refl (fun k => k = g) w1).trans (turned_store _ g (j * 4 + 3) (.int .i64 v3)))
        have hrm1 := fun v3 => (hrmn1.put (q := 3) (by simp) (.int .i64 v3))
        have hTt1 := fun v3 => hTd1.trans ((hts1 v3).mono (T := fun k => k = g ∨ F k) (fun k hk => .inl hk))
        have ho1_args := fun v3 => hN1.turned (hts1 v3) (fun k _ h1 h2 => (HF.out k h1).2 h2)
        have HTS1X := Lib.hid hts1
        clear hts1
        have HRM1X := Lib.hid hrm1
        clear hrm1
        have HTT1X := Lib.hid hTt1
        clear hTt1
        have HO1_ARGSX := Lib.hid ho1_args
        clear ho1_args
        clear hrmn1
        go_wp2
        go_roundg (gk - 1)
        case measure => omega
        case rel =>
          refine ⟨j + 1, by omega, by go_num, int_val_eq (by have h1 := HC.out.1; have h2 := HK.out; omega), Lib.hid ⟨?_, HM.out.2.trans ((HTT1X.out _).mono (fun k hk => hk.elim (fun e => e ▸ HSG.out) (fun h => (HF.out k h).1)))⟩⟩
          rw [← half_set HX.out, HK.out]
          refine HPUT.out _ _ _ (HTT1X.out _) (HRM1X.out _) (by simp) ⟨args_a, args_c, ?_, ?_⟩
          · simp [renIns, run_length]
          · simpa [renIns, run_length] using (HO1_ARGSX.out _)
      · obtain rfl : j = len := by omega
        have hfin := HM.out.1
        rw [half_end HS.out.2] at hfin
        have HFIN := Lib.hid hfin
        have htk : xs.take j = xs := List.take_of_length_le (by have := HS.out.2; omega)
        have HT := Lib.hid htk
        clear htk hfin
        go_wp2
        go_ret
        exact ⟨ret_int (by rw [HT.out]), HFIN.out, HM.out.2⟩

set_option maxRecDepth 100000 in
set_option maxHeartbeats 2000000 in
theorem markBlockS_set (S : Nat → Prop) (a : Option Addr) (len cap : Nat) (xs : List BlockD) (k : Int) (w : World) (h : SepK 5 49 BlockK S w a len cap xs) (hs : szS szBlockD xs ≤ 1048576) (hk0 : 0 ≤ k) (hk : k + (sumOf cntBlockD xs : Nat) ≤ 1099511627776) :
    Calls Tryz.prog 47 #[.slice a len cap, .int .i64 k] w fun e w' => e = .returned (.int .i64 (k + (sumOf cntBlockD xs : Nat))) ∧ SepK 5 49 BlockK S w' a len cap (renS cntBlockD renBlock k xs) ∧ Turned S w w' := by
  have hl := h.length
  have hlen : len ≤ 1048576 := by have := szS_len szBlockD xs; omega
  rcases h.case with ⟨rfl, rfl, rfl⟩ | ⟨g, rfl⟩
  · obtain rfl : xs = [] := List.length_eq_zero_iff.1 hl
    go_enter Tryz.func47, Tryz.ntmps47
    go_wp2
    refine wp_loop_rounds 1 ?_
    rw [rounds_succ]
    go_wp2
    go_ret
    exact ⟨ret_int (by simp [sumOf]), SepK.nil, Turned.refl _ _⟩
  · have HM0 := Lib.hid (show SepK 5 49 BlockK S w (some ⟨g, 0, none⟩) len cap (half cntBlockD renBlock k xs 0) ∧ Turned S w w from ⟨by rw [half_start]; exact h, Turned.refl _ _⟩)
    have HS := Lib.hid (And.intro hs hl)
    clear h hs hl
    go_enter Tryz.func47, Tryz.ntmps47
    go_wp2
    go_loopg [1, 5] len (fun F c i wr => ∃ j : Nat, j + F = len ∧ i = .int .i64 j ∧ c = .int .i64 (k + (sumOf cntBlockD (xs.take j) : Nat)) ∧ Hid (SepK 5 49 BlockK S wr (some ⟨g, 0, none⟩) len cap (half cntBlockD renBlock k xs j) ∧ Turned S w wr))
    case atStart => exact ⟨0, by omega, rfl, int_val_eq (by simp [sumOf]), HM0⟩
    case round =>
      obtain ⟨j, hj, rfl, rfl, HM⟩ := hrel
      clear HM0
      by_cases hlt : j < len
      · obtain ⟨x, pre, d, post, F, hx, hcl, hrm, hR, hF0, hSg0, hput⟩ := HM.out.1.at blockK_sets hlt
        rw [half_get (by have := HS.out.2; omega)] at hx
        have HF := Lib.hid hF0
        have HSG := Lib.hid hSg0
        have HPUT := Lib.hid hput
        have HX := Lib.hid hx
        have hcnt : sumOf cntBlockD (xs.take (j + 1)) = sumOf cntBlockD (xs.take j) + cntBlockD x := by rw [take_succ_of hx, sumOf_snoc]
        have htot := sumOf_take cntBlockD xs (j + 1)
        have hz : szBlockD x ≤ 1048576 := Nat.le_trans (szS_mem (List.mem_of_getElem? hx)) HS.out.1
        clear hF0 hSg0 hput
        obtain ⟨phis_a, phis_c, ins_a, ins_c, nx_a, nx_c, S_phis, S_ins, S_nx, rfl, phis_o, ins_o, nx_o, d_phis, d_ins, d_nx⟩ := hR
        have SUB_PHIS := Lib.hid (show ∀ k, S_phis k → F k from fun k h => (d_phis k h).1)
        have D_PHIS_INS := Lib.hid (show ∀ k, S_phis k → ¬ S_ins k from fun k h => (d_phis k h).2.1)
        have D_PHIS_NX := Lib.hid (show ∀ k, S_phis k → ¬ S_nx k from fun k h => (d_phis k h).2.2)
        have SUB_INS := Lib.hid (show ∀ k, S_ins k → F k from fun k h => (d_ins k h).1)
        have D_INS_PHIS := Lib.hid (show ∀ k, S_ins k → ¬ S_phis k from fun k h => (d_ins k h).2.1)
        have D_INS_NX := Lib.hid (show ∀ k, S_ins k → ¬ S_nx k from fun k h => (d_ins k h).2.2)
        have SUB_NX := Lib.hid (show ∀ k, S_nx k → F k from fun k h => (d_nx k h).1)
        have D_NX_PHIS := Lib.hid (show ∀ k, S_nx k → ¬ S_phis k from fun k h => (d_nx k h).2.1)
        have D_NX_INS := Lib.hid (show ∀ k, S_nx k → ¬ S_ins k from fun k h => (d_nx k h).2.2)
        have HDD := Lib.hid (And.intro d_phis (And.intro d_ins d_nx))
        clear d_phis d_ins d_nx
        obtain ⟨phis, ins, jump, jon, nx⟩ := x
        simp only at phis_o ins_o nx_o hrm
        rw [show cntBlockD ⟨phis, ins, jump, jon, nx⟩ = 2 + sumOf cntPhiD phis + sumOf cntInsD ins + nx.length from rfl] at hcnt
        unfold szBlockD at hz
        simp only at hz
        have hsz_phis : szS szPhiD phis ≤ 1048576 := by omega
        have hsz_ins : szS szInsD ins ≤ 1048576 := by omega
        have hsz_nx : nx.length ≤ 1048576 := by omega
        have HC := Lib.hid (And.intro hcnt htot)
        have hKb : k + (sumOf cntBlockD (xs.take j) : Nat) + (2 + sumOf cntPhiD phis + sumOf cntInsD ins + nx.length : Nat) ≤ 1099511627776 := by omega
        have hK0 : 0 ≤ k + (sumOf cntBlockD (xs.take j) : Nat) := by omega
        clear hcnt htot hx hcl hz
        generalize hK : k + (sumOf cntBlockD (xs.take j) : Nat) = K at hKb hK0 ⊢
        have HK := Lib.hid hK
        clear hK
        have hz0_0 : World.cell? wr ⟨g, j * 5, none⟩ = some (.slice phis_a phis.length phis_c) := hrm.cell (q := 0) rfl
        have hts0 : Turned (fun k => k = g) wr wr := (Turned.refl (fun k => k = g) wr)
        have hrm0 := hrm
        have hTt0 := (Turned.refl (fun k => k = g ∨ F k) wr).trans (hts0.mono (T := fun k => k = g ∨ F k) (fun k hk => .inl hk))
        have ho0_phis := phis_o.turned phiK_sets hts0 (fun k _ h1 h2 => (HF.out k (SUB_PHIS.out k h1)).2 h2)
        have ho0_ins := ins_o.turned insK_sets hts0 (fun k _ h1 h2 => (HF.out k (SUB_INS.out k h1)).2 h2)
        have ho0_nx := nx_o.turned hts0 (fun k _ h1 h2 => (HF.out k (SUB_NX.out k h1)).2 h2)
        have HTS0X := Lib.hid hts0
        clear hts0
        have HRM0X := Lib.hid hrm0
        clear hrm0
        have HTT0X := Lib.hid hTt0
        clear hTt0
        have HO0_PHISX := Lib.hid ho0_phis
        clear ho0_phis
        have HO0_INSX := Lib.hid ho0_ins
        clear ho0_ins
        have HO0_NXX := Lib.hid ho0_nx
        clear ho0_nx
        go_wp2_with fail
        refine (markPhiS_set S_phis phis_a phis.length phis_c phis _ _ HO0_PHISX.out hsz_phis (by omega) (by omega)).mono ?_
        rintro e w1 ⟨rfl, hN1, hT1⟩
        have hrmn1 := RowMid.turned HRM0X.out hT1 (fun h => (HF.out g (SUB_PHIS.out g h)).2 rfl)
        have hTd1 := Turned.trans HTT0X.out (hT1.mono (T := fun k => k = g ∨ F k) (fun k hk => .inr (SUB_PHIS.out k hk)))
        have hon1_ins := SepK.turned insK_sets HO0_INSX.out hT1 (fun k _ h1 h2 => D_INS_PHIS.out k h1 h2)
        have hon1_nx := IntsK.turned HO0_NXX.out hT1 (fun k _ h1 h2 => D_NX_PHIS.out k h1 h2)
        clear hz0_0 hT1
        have hz1_1 : World.cell? w1 ⟨g, j * 5 + 1, none⟩ = some (.slice ins_a ins.length ins_c) := hrmn1.cell (q := 1) rfl
        have hts1 : Turned (fun k => k = g) w1 w1 := (Turned.refl (fun k => k = g) w1)
        have hrm1 := hrmn1
        have hTt1 := hTd1.trans (hts1.mono (T := fun k => k = g ∨ F k) (fun k hk => .inl hk))
        have ho1_phis := hN1.turned phiK_sets hts1 (fun k _ h1 h2 => (HF.out k (SUB_PHIS.out k h1)).2 h2)
        have ho1_ins := hon1_ins.turned insK_sets hts1 (fun k _ h1 h2 => (HF.out k (SUB_INS.out k h1)).2 h2)
        have ho1_nx := hon1_nx.turned hts1 (fun k _ h1 h2 => (HF.out k (SUB_NX.out k h1)).2 h2)
        have HTS1X := Lib.hid hts1
        clear hts1
        have HRM1X := Lib.hid hrm1
        clear hrm1
        have HTT1X := Lib.hid hTt1
        clear hTt1
        have HO1_PHISX := Lib.hid ho1_phis
        clear ho1_phis
        have HO1_INSX := Lib.hid ho1_ins
        clear ho1_ins
        have HO1_NXX := Lib.hid ho1_nx
        clear ho1_nx
        clear hrmn1
        go_wp2_with fail
        refine (markInsS_set S_ins ins_a ins.length ins_c ins _ _ HO1_INSX.out hsz_ins (by omega) (by omega)).mono ?_
        rintro e w2 ⟨rfl, hN2, hT2⟩
        have hrmn2 := RowMid.turned HRM1X.out hT2 (fun h => (HF.out g (SUB_INS.out g h)).2 rfl)
        have hTd2 := Turned.trans HTT1X.out (hT2.mono (T := fun k => k = g ∨ F k) (fun k hk => .inr (SUB_INS.out k hk)))
        have hon2_phis := SepK.turned phiK_sets HO1_PHISX.out hT2 (fun k _ h1 h2 => D_PHIS_INS.out k h1 h2)
        have hon2_nx := IntsK.turned HO1_NXX.out hT2 (fun k _ h1 h2 => D_NX_INS.out k h1 h2)
        clear hz1_1 hT2
        have hz2_2 : World.cell? w2 ⟨g, j * 5 + 2, none⟩ = some _ := hrmn2.cell (q := 2) rfl
        have hy2_2 : World.frozen? w2 ⟨g, j * 5 + 2, none⟩ = false := hrmn2.frozen 2
        have hz2_3 : World.cell? w2 ⟨g, j * 5 + 3, none⟩ = some _ := hrmn2.cell (q := 3) rfl
        have hy2_3 : World.frozen? w2 ⟨g, j * 5 + 3, none⟩ = false := hrmn2.frozen 3
        have hz2_4 : World.cell? w2 ⟨g, j * 5 + 4, none⟩ = some (.slice nx_a nx.length nx_c) := hrmn2.cell (q := 4) rfl
        have hts2 : ∀ v2 v3 : Int, Turned (fun k => k = g) w2 (World.setCell (World.setCell w2 ⟨g, j * 5 + 2, none⟩ (.int .i64 v2)) ⟨g, j * 5 + 3, none⟩ (.int .i64 v3)) := fun v2 v3 => (((Turned.refl (fun k => k = g) w2).trans (turned_store _ g (j * 5 + 2) (.int .i64 v2))).trans (turned_store _ g (j * 5 + 3) (.int .i64 v3)))
        have hrm2 := fun v2 v3 => ((hrmn2.put (q := 2) (by simp) (.int .i64 v2)).put (q := 3) (by simp) (.int .i64 v3))
        have hTt2 := fun v2 v3 => hTd2.trans ((hts2 v2 v3).mono (T := fun k => k = g ∨ F k) (fun k hk => .inl hk))
        have ho2_phis := fun v2 v3 => hon2_phis.turned phiK_sets (hts2 v2 v3) (fun k _ h1 h2 => (HF.out k (SUB_PHIS.out k h1)).2 h2)
        have ho2_ins := fun v2 v3 => hN2.turned insK_sets (hts2 v2 v3) (fun k _ h1 h2 => (HF.out k (SUB_INS.out k h1)).2 h2)
        have ho2_nx := fun v2 v3 => hon2_nx.turned (hts2 v2 v3) (fun k _ h1 h2 => (HF.out k (SUB_NX.out k h1)).2 h2)
        have HTS2X := Lib.hid hts2
        clear hts2
        have HRM2X := Lib.hid hrm2
        clear hrm2
        have HTT2X := Lib.hid hTt2
        clear hTt2
        have HO2_PHISX := Lib.hid ho2_phis
        clear ho2_phis
        have HO2_INSX := Lib.hid ho2_ins
        clear ho2_ins
        have HO2_NXX := Lib.hid ho2_nx
        clear ho2_nx
        clear hrmn2
        go_wp2_with fail
        refine (markIntS_set S_nx nx_a nx.length nx_c nx _ _ (HO2_NXX.out _ _) (by omega) (by omega) (by omega)).mono ?_
        rintro e w3 ⟨rfl, hN3, hT3⟩
        have hrmn3 := RowMid.turned (HRM2X.out _ _) hT3 (fun h => (HF.out g (SUB_NX.out g h)).2 rfl)
        have hTd3 := Turned.trans (HTT2X.out _ _) (hT3.mono (T := fun k => k = g ∨ F k) (fun k hk => .inr (SUB_NX.out k hk)))
        have hon3_phis := SepK.turned phiK_sets (HO2_PHISX.out _ _) hT3 (fun k _ h1 h2 => D_PHIS_NX.out k h1 h2)
        have hon3_ins := SepK.turned insK_sets (HO2_INSX.out _ _) hT3 (fun k _ h1 h2 => D_INS_NX.out k h1 h2)
        clear hz2_2 hz2_3 hz2_4 hy2_2 hy2_3 hT3
        have hts3 : Turned (fun k => k = g) w3 w3 := (Turned.refl (fun k => k = g) w3)
        have hrm3 := hrmn3
        have hTt3 := hTd3.trans (hts3.mono (T := fun k => k = g ∨ F k) (fun k hk => .inl hk))
        have ho3_phis := hon3_phis.turned phiK_sets hts3 (fun k _ h1 h2 => (HF.out k (SUB_PHIS.out k h1)).2 h2)
        have ho3_ins := hon3_ins.turned insK_sets hts3 (fun k _ h1 h2 => (HF.out k (SUB_INS.out k h1)).2 h2)
        have ho3_nx := hN3.turned hts3 (fun k _ h1 h2 => (HF.out k (SUB_NX.out k h1)).2 h2)
        have HTS3X := Lib.hid hts3
        clear hts3
        have HRM3X := Lib.hid hrm3
        clear hrm3
        have HTT3X := Lib.hid hTt3
        clear hTt3
        have HO3_PHISX := Lib.hid ho3_phis
        clear ho3_phis
        have HO3_INSX := Lib.hid ho3_ins
        clear ho3_ins
        have HO3_NXX := Lib.hid ho3_nx
        clear ho3_nx
        clear hrmn3
        go_wp2
        go_roundg (gk - 1)
        case measure => omega
        case rel =>
          refine ⟨j + 1, by omega, by go_num, int_val_eq (by have h1 := HC.out.1; have h2 := HK.out; omega), Lib.hid ⟨?_, HM.out.2.trans (HTT3X.out.mono (fun k hk => hk.elim (fun e => e ▸ HSG.out) (fun h => (HF.out k h).1)))⟩⟩
          rw [← half_set HX.out, HK.out]
          refine HPUT.out _ _ _ HTT3X.out HRM3X.out (by simp) ⟨phis_a, phis_c, ins_a, ins_c, nx_a, nx_c, S_phis, S_ins, S_nx, ?_, ?_, ?_, ?_, HDD.out.1, HDD.out.2.1, HDD.out.2.2⟩
          · simp [renBlock, run_length, renS_length]
          · simpa [renBlock, renS_length] using HO3_PHISX.out
          · simpa [renBlock, renS_length] using HO3_INSX.out
          · simpa [renBlock, run_length] using HO3_NXX.out
      · obtain rfl : j = len := by omega
        have hfin := HM.out.1
        rw [half_end HS.out.2] at hfin
        have HFIN := Lib.hid hfin
        have htk : xs.take j = xs := List.take_of_length_le (by have := HS.out.2; omega)
        have HT := Lib.hid htk
        clear htk hfin
        go_wp2
        go_ret
        exact ⟨ret_int (by rw [HT.out]), HFIN.out, HM.out.2⟩

set_option maxRecDepth 100000 in
set_option maxHeartbeats 2000000 in
theorem markCodeS_set (S : Nat → Prop) (a : Option Addr) (len cap : Nat) (xs : List CodeD) (k : Int) (w : World) (h : SepK 3 52 CodeK S w a len cap xs) (hs : szS szCodeD xs ≤ 1048576) (hk0 : 0 ≤ k) (hk : k + (sumOf cntCodeD xs : Nat) ≤ 1099511627776) :
    Calls Tryz.prog 25 #[.slice a len cap, .int .i64 k] w fun e w' => e = .returned (.int .i64 (k + (sumOf cntCodeD xs : Nat))) ∧ SepK 3 52 CodeK S w' a len cap (renS cntCodeD renCode k xs) ∧ Turned S w w' := by
  have hl := h.length
  have hlen : len ≤ 1048576 := by have := szS_len szCodeD xs; omega
  rcases h.case with ⟨rfl, rfl, rfl⟩ | ⟨g, rfl⟩
  · obtain rfl : xs = [] := List.length_eq_zero_iff.1 hl
    go_enter Tryz.func25, Tryz.ntmps25
    go_wp2
    refine wp_loop_rounds 1 ?_
    rw [rounds_succ]
    go_wp2
    go_ret
    exact ⟨ret_int (by simp [sumOf]), SepK.nil, Turned.refl _ _⟩
  · have HM0 := Lib.hid (show SepK 3 52 CodeK S w (some ⟨g, 0, none⟩) len cap (half cntCodeD renCode k xs 0) ∧ Turned S w w from ⟨by rw [half_start]; exact h, Turned.refl _ _⟩)
    have HS := Lib.hid (And.intro hs hl)
    clear h hs hl
    go_enter Tryz.func25, Tryz.ntmps25
    go_wp2
    go_loopg [1, 5] len (fun F c i wr => ∃ j : Nat, j + F = len ∧ i = .int .i64 j ∧ c = .int .i64 (k + (sumOf cntCodeD (xs.take j) : Nat)) ∧ Hid (SepK 3 52 CodeK S wr (some ⟨g, 0, none⟩) len cap (half cntCodeD renCode k xs j) ∧ Turned S w wr))
    case atStart => exact ⟨0, by omega, rfl, int_val_eq (by simp [sumOf]), HM0⟩
    case round =>
      obtain ⟨j, hj, rfl, rfl, HM⟩ := hrel
      clear HM0
      by_cases hlt : j < len
      · obtain ⟨x, pre, d, post, F, hx, hcl, hrm, hR, hF0, hSg0, hput⟩ := HM.out.1.at codeK_sets hlt
        rw [half_get (by have := HS.out.2; omega)] at hx
        have HF := Lib.hid hF0
        have HSG := Lib.hid hSg0
        have HPUT := Lib.hid hput
        have HX := Lib.hid hx
        have hcnt : sumOf cntCodeD (xs.take (j + 1)) = sumOf cntCodeD (xs.take j) + cntCodeD x := by rw [take_succ_of hx, sumOf_snoc]
        have htot := sumOf_take cntCodeD xs (j + 1)
        have hz : szCodeD x ≤ 1048576 := Nat.le_trans (szS_mem (List.mem_of_getElem? hx)) HS.out.1
        clear hF0 hSg0 hput
        obtain ⟨blocks_a, blocks_c, rfl, blocks_o⟩ := hR
        obtain ⟨params, regs, blocks⟩ := x
        simp only at blocks_o hrm
        rw [show cntCodeD ⟨params, regs, blocks⟩ = 2 + sumOf cntBlockD blocks from rfl] at hcnt
        unfold szCodeD at hz
        simp only at hz
        have hsz_blocks : szS szBlockD blocks ≤ 1048576 := by omega
        have HC := Lib.hid (And.intro hcnt htot)
        have hKb : k + (sumOf cntCodeD (xs.take j) : Nat) + (2 + sumOf cntBlockD blocks : Nat) ≤ 1099511627776 := by omega
        have hK0 : 0 ≤ k + (sumOf cntCodeD (xs.take j) : Nat) := by omega
        clear hcnt htot hx hcl hz
        generalize hK : k + (sumOf cntCodeD (xs.take j) : Nat) = K at hKb hK0 ⊢
        have HK := Lib.hid hK
        clear hK
        have hz0_0 : World.cell? wr ⟨g, j * 3, none⟩ = some _ := hrm.cell (q := 0) rfl
        have hy0_0 : World.frozen? wr ⟨g, j * 3, none⟩ = false := hrm.frozen 0
        have hz0_1 : World.cell? wr ⟨g, j * 3 + 1, none⟩ = some _ := hrm.cell (q := 1) rfl
        have hy0_1 : World.frozen? wr ⟨g, j * 3 + 1, none⟩ = false := hrm.frozen 1
        have hz0_2 : World.cell? wr ⟨g, j * 3 + 2, none⟩ = some (.slice blocks_a blocks.length blocks_c) := hrm.cell (q := 2) rfl
        have hts0 : ∀ v0 v1 : Int, Turned (fun k => k = g) wr (World.setCell (World.setCell wr ⟨g, j * 3 + 0, none⟩ (.int .i64 v0)) ⟨g, j * 3 + 1, none⟩ (.int .i64 v1)) := fun v0 v1 => (((Turned.refl (fun k => k = g) wr).trans (turned_store _ g (j * 3 + 0) (.int .i64 v0))).trans (turned_store _ g (j * 3 + 1) (.int .i64 v1)))
        have hrm0 := fun v0 v1 => ((hrm.put (q := 0) (by simp) (.int .i64 v0)).put (q := 1) (by simp) (.int .i64 v1))
        have hTt0 := fun v0 v1 => (Turned.refl (fun k => k = g ∨ F k) wr).trans ((hts0 v0 v1).mono (T := fun k => k = g ∨ F k) (fun k hk => .inl hk))
        have ho0_blocks := fun v0 v1 => blocks_o.turned blockK_sets (hts0 v0 v1) (fun k _ h1 h2 => (HF.out k h1).2 h2)
        have HTS0X := Lib.hid hts0
        clear hts0
        have HRM0X := Lib.hid hrm0
        clear hrm0
        have HTT0X := Lib.hid hTt0
        clear hTt0
        have HO0_BLOCKSX := Lib.hid ho0_blocks
        clear ho0_blocks
        go_wp2_with fail
        refine (markBlockS_set F blocks_a blocks.length blocks_c blocks _ _ (HO0_BLOCKSX.out _ _) hsz_blocks (by omega) (by omega)).mono ?_
        rintro e w1 ⟨rfl, hN1, hT1⟩
        have hrmn1 := RowMid.turned (HRM0X.out _ _) hT1 (fun h => (HF.out g h).2 rfl)
        have hTd1 := Turned.trans (HTT0X.out _ _) (hT1.mono (T := fun k => k = g ∨ F k) (fun k hk => .inr hk))
        clear hz0_0 hz0_1 hz0_2 hy0_0 hy0_1 hT1
        have hts1 : Turned (fun k => k = g) w1 w1 := (Turned.refl (fun k => k = g) w1)
        have hrm1 := hrmn1
        have hTt1 := hTd1.trans (hts1.mono (T := fun k => k = g ∨ F k) (fun k hk => .inl hk))
        have ho1_blocks := hN1.turned blockK_sets hts1 (fun k _ h1 h2 => (HF.out k h1).2 h2)
        have HTS1X := Lib.hid hts1
        clear hts1
        have HRM1X := Lib.hid hrm1
        clear hrm1
        have HTT1X := Lib.hid hTt1
        clear hTt1
        have HO1_BLOCKSX := Lib.hid ho1_blocks
        clear ho1_blocks
        clear hrmn1
        go_wp2
        go_roundg (gk - 1)
        case measure => omega
        case rel =>
          refine ⟨j + 1, by omega, by go_num, int_val_eq (by have h1 := HC.out.1; have h2 := HK.out; omega), Lib.hid ⟨?_, HM.out.2.trans (HTT1X.out.mono (fun k hk => hk.elim (fun e => e ▸ HSG.out) (fun h => (HF.out k h).1)))⟩⟩
          rw [← half_set HX.out, HK.out]
          refine HPUT.out _ _ _ HTT1X.out HRM1X.out (by simp) ⟨blocks_a, blocks_c, ?_, ?_⟩
          · simp [renCode, renS_length]
          · simpa [renCode, renS_length] using HO1_BLOCKSX.out
      · obtain rfl : j = len := by omega
        have hfin := HM.out.1
        rw [half_end HS.out.2] at hfin
        have HFIN := Lib.hid hfin
        have htk : xs.take j = xs := List.take_of_length_le (by have := HS.out.2; omega)
        have HT := Lib.hid htk
        clear htk hfin
        go_wp2
        go_ret
        exact ⟨ret_int (by rw [HT.out]), HFIN.out, HM.out.2⟩

end Go.Proofs.YtonlidgmfmgcmaaGreat
