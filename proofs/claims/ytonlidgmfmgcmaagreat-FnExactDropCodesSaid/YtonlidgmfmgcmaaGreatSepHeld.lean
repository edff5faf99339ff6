
/-
  What the marks left is held.
-/
import Derived.Test.YtonlidgmfmgcmaaGreatSepMark
namespace Go.Proofs.YtonlidgmfmgcmaaGreat
open Go.RowKit
set_option linter.unusedVariables false

set_option maxRecDepth 100000 in
set_option maxHeartbeats 2000000 in
theorem heldPhiS_any (a : Option Addr) (len cap : Nat) (xs : List PhiD) (k : Int) (w : World) (h : SliceRd 2 PhiR w a len (renS cntPhiD renPhi k xs)) (hs : szS szPhiD xs ≤ 1048576) (hk0 : 0 ≤ k) (hk : k + (sumOf cntPhiD xs : Nat) ≤ 1099511627776) :
    Calls Tryz.prog 77 #[.slice a len cap, .int .i64 k] w fun e w' => e = .returned (.int .i64 (k + (sumOf cntPhiD xs : Nat))) ∧ w = w' := by
  have hl : xs.length = len := by have := h.length; rwa [renS_length] at this
  have hlen : len ≤ 1048576 := by have := szS_len szPhiD xs; omega
  have HH := Lib.hid h
  have HS := Lib.hid (And.intro hs hl)
  clear h hs hl
  go_enter Tryz.func77, Tryz.ntmps77
  go_wp2
  go_loop [1, 5] (fun q i => ∃ j : Nat, j ≤ len ∧ i = .int .i64 j ∧ q = .int .i64 (k + (sumOf cntPhiD (xs.take j) : Nat))) (fun _ i => len - (intOf i).toNat)
  case atStart => exact ⟨0, Nat.zero_le _, rfl, int_val_eq (by simp [sumOf])⟩
  case round =>
    obtain ⟨j, hj, rfl, rfl⟩ := hrel
    by_cases hlt : j < len
    · obtain ⟨x, hx⟩ : ∃ x, xs[j]? = some x := ⟨_, List.getElem?_eq_getElem (by have := HS.out.2; omega)⟩
      obtain ⟨b, off, cs, y, rfl, hy, hcl, hcell, hR⟩ := HH.out.place (by decide) hlt
      rw [renS_get hx] at hy
      obtain rfl := Option.some.inj hy
      have hcnt : sumOf cntPhiD (xs.take (j + 1)) = sumOf cntPhiD (xs.take j) + cntPhiD x := by rw [take_succ_of hx, sumOf_snoc]
      have htot := sumOf_take cntPhiD xs (j + 1)
      have hz : szPhiD x ≤ 1048576 := Nat.le_trans (szS_mem (List.mem_of_getElem? hx)) HS.out.1
      obtain ⟨to, args⟩ := x
      obtain ⟨args_a, args_c, rfl, ⟨args_m, args_r⟩⟩ := hR
      simp only [renPhi, run_length] at args_r hcell
      clear args_m
      rw [show cntPhiD ⟨to, args⟩ = 1 + args.length from rfl] at hcnt
      unfold szPhiD at hz
      simp only at hz
      have hsz_args : args.length ≤ 1048576 := by omega
      have HC := Lib.hid (And.intro hcnt htot)
      have hKb : k + (sumOf cntPhiD (xs.take j) : Nat) + (1 + args.length : Nat) ≤ 1099511627776 := by omega
      have hK0 : 0 ≤ k + (sumOf cntPhiD (xs.take j) : Nat) := by omega
      clear hcnt htot hx hz hcl
      generalize hK : k + (sumOf cntPhiD (xs.take j) : Nat) = K at hKb hK0 hcell args_r ⊢
      have HK := Lib.hid hK
      clear hK
      have c0 : w.cell? ⟨b, off + j * 2, none⟩ = some (.int .i64 (K)) := hcell 0 _ rfl
      have e0 : ((K) != (K)) = false := by simp
      have c1 : w.cell? ⟨b, off + j * 2 + 1, none⟩ = some (.slice args_a args.length args_c) := hcell 1 _ rfl
      have n1 : decide (K + 1 + (args.length : Int) < 0) = false := decide_eq_false (by omega)
      clear hcell
      go_wp2_with fail
      refine (heldIntS_any args_a args.length args_c _ w args_r (by omega) (by omega) (by omega)).mono ?_
      rintro e w1 ⟨rfl, rfl⟩
      go_wp2
      go_round
      case rel => exact ⟨j + 1, by omega, by go_num, int_val_eq (by have h1 := HC.out.1; have h2 := HK.out; omega)⟩
      case measure => simp [intOf]; omega
    · obtain rfl : j = len := by omega
      have htk : xs.take j = xs := List.take_of_length_le (by have := HS.out.2; omega)
      have HT := Lib.hid htk
      clear htk
      go_wp2
      go_ret
      exact ⟨ret_int (by rw [HT.out]), rfl⟩

set_option maxRecDepth 100000 in
set_option maxHeartbeats 2000000 in
theorem heldInsS_any (a : Option Addr) (len cap : Nat) (xs : List InsD) (k : Int) (w : World) (h : SliceRd 4 InsR w a len (renS cntInsD renIns k xs)) (hs : szS szInsD xs ≤ 1048576) (hk0 : 0 ≤ k) (hk : k + (sumOf cntInsD xs : Nat) ≤ 1099511627776) :
    Calls Tryz.prog 78 #[.slice a len cap, .int .i64 k] w fun e w' => e = .returned (.int .i64 (k + (sumOf cntInsD xs : Nat))) ∧ w = w' := by
  have hl : xs.length = len := by have := h.length; rwa [renS_length] at this
  have hlen : len ≤ 1048576 := by have := szS_len szInsD xs; omega
  have HH := Lib.hid h
  have HS := Lib.hid (And.intro hs hl)
  clear h hs hl
  go_enter Tryz.func78, Tryz.ntmps78
  go_wp2
  go_loop [1, 5] (fun q i => ∃ j : Nat, j ≤ len ∧ i = .int .i64 j ∧ q = .int .i64 (k + (sumOf cntInsD (xs.take j) : Nat))) (fun _ i => len - (intOf i).toNat)
  case atStart => exact ⟨0, Nat.zero_le _, rfl, int_val_eq (by simp [sumOf])⟩
  case round =>
    obtain ⟨j, hj, rfl, rfl⟩ := hrel
    by_cases hlt : j < len
    · obtain ⟨x, hx⟩ : ∃ x, xs[j]? = some x := ⟨_, List.getElem?_eq_getElem (by have := HS.out.2; omega)⟩
      obtain ⟨b, off, cs, y, rfl, hy, hcl, hcell, hR⟩ := HH.out.place (by decide) hlt
      rw [renS_get hx] at hy
      obtain rfl := Option.some.inj hy
      have hcnt : sumOf cntInsD (xs.take (j + 1)) = sumOf cntInsD (xs.take j) + cntInsD x := by rw [take_succ_of hx, sumOf_snoc]
      have htot := sumOf_take cntInsD xs (j + 1)
      have hz : szInsD x ≤ 1048576 := Nat.le_trans (szS_mem (List.mem_of_getElem? hx)) HS.out.1
      obtain ⟨op, to, args, num⟩ := x
      obtain ⟨args_a, args_c, rfl, ⟨args_m, args_r⟩⟩ := hR
      simp only [renIns, run_length] at args_r hcell
      clear args_m
      rw [show cntInsD ⟨op, to, args, num⟩ = 3 + args.length from rfl] at hcnt
      unfold szInsD at hz
      simp only at hz
      have hsz_args : args.length ≤ 1048576 := by omega
      have HC := Lib.hid (And.intro hcnt htot)
      have hKb : k + (sumOf cntInsD (xs.take j) : Nat) + (3 + args.length : Nat) ≤ 1099511627776 := by omega
      have hK0 : 0 ≤ k + (sumOf cntInsD (xs.take j) : Nat) := by omega
      clear hcnt htot hx hz hcl
      generalize hK : k + (sumOf cntInsD (xs.take j) : Nat) = K at hKb hK0 hcell args_r ⊢
      have HK := Lib.hid hK
      clear hK
      have c0 : w.cell? ⟨b, off + j * 4, none⟩ = some (.int .i64 (K)) := hcell 0 _ rfl
      have e0 : ((K) != (K)) = false := by simp
      have c1 : w.cell? ⟨b, off + j * 4 + 1, none⟩ = some (.int .i64 (K + 1)) := hcell 1 _ rfl
      have e1 : ((K + 1) != (K + 1)) = false := by simp
      have c2 : w.cell? ⟨b, off + j * 4 + 2, none⟩ = some (.slice args_a args.length args_c) := hcell 2 _ rfl
      have n2 : decide (K + 1 + 1 + (args.length : Int) < 0) = false := decide_eq_false (by omega)
      have c3 : w.cell? ⟨b, off + j * 4 + 3, none⟩ = some (.int .i64 (K + 1 + 1 + (args.length : Int))) := hcell 3 _ rfl
      have e3 : ((K + 1 + 1 + (args.length : Int)) != (K + 1 + 1 + (args.length : Int))) = false := by simp
      clear hcell
      go_wp2_with fail
      refine (heldIntS_any args_a args.length args_c _ w args_r (by omega) (by omega) (by omega)).mono ?_
      rintro e w1 ⟨rfl, rfl⟩
      go_wp2
      go_round
      case rel => exact ⟨j + 1, by omega, by go_num, int_val_eq (by have h1 := HC.out.1; have h2 := HK.out; omega)⟩
      case measure => simp [intOf]; omega
    · obtain rfl : j = len := by omega
      have htk : xs.take j = xs := List.take_of_length_le (by have := HS.out.2; omega)
      have HT := Lib.hid htk
      clear htk
      go_wp2
      go_ret
      exact ⟨ret_int (by rw [HT.out]), rfl⟩

set_option maxRecDepth 100000 in
set_option maxHeartbeats 2000000 in
theorem heldBlockS_any (a : Option Addr) (len cap : Nat) (xs : List BlockD) (k : Int) (w : World) (h : SliceRd 5 BlockR w a len (renS cntBlockD renBlock k xs)) (hs : szS szBlockD xs ≤ 1048576) (hk0 : 0 ≤ k) (hk : k + (sumOf cntBlockD xs : Nat) ≤ 1099511627776) :
    Calls Tryz.prog 51 #[.slice a len cap, .int .i64 k] w fun e w' => e = .returned (.int .i64 (k + (sumOf cntBlockD xs : Nat))) ∧ w = w' := by
  have hl : xs.length = len := by have := h.length; rwa [renS_length] at this
  have hlen : len ≤ 1048576 := by have := szS_len szBlockD xs; omega
  have HH := Lib.hid h
  have HS := Lib.hid (And.intro hs hl)
  clear h hs hl
  go_enter Tryz.func51, Tryz.ntmps51
  go_wp2
  go_loop [1, 5] (fun q i => ∃ j : Nat, j ≤ len ∧ i = .int .i64 j ∧ q = .int .i64 (k + (sumOf cntBlockD (xs.take j) : Nat))) (fun _ i => len - (intOf i).toNat)
  case atStart => exact ⟨0, Nat.zero_le _, rfl, int_val_eq (by simp [sumOf])⟩
  case round =>
    obtain ⟨j, hj, rfl, rfl⟩ := hrel
    by_cases hlt : j < len
    · obtain ⟨x, hx⟩ : ∃ x, xs[j]? = some x := ⟨_, List.getElem?_eq_getElem (by have := HS.out.2; omega)⟩
      obtain ⟨b, off, cs, y, rfl, hy, hcl, hcell, hR⟩ := HH.out.place (by decide) hlt
      rw [renS_get hx] at hy
      obtain rfl := Option.some.inj hy
      have hcnt : sumOf cntBlockD (xs.take (j + 1)) = sumOf cntBlockD (xs.take j) + cntBlockD x := by rw [take_succ_of hx, sumOf_snoc]
      have htot := sumOf_take cntBlockD xs (j + 1)
      have hz : szBlockD x ≤ 1048576 := Nat.le_trans (szS_mem (List.mem_of_getElem? hx)) HS.out.1
      obtain ⟨phis, ins, jump, jon, nx⟩ := x
      obtain ⟨phis_a, phis_c, ins_a, ins_c, nx_a, nx_c, rfl, ⟨phis_m, phis_r⟩, ⟨ins_m, ins_r⟩, ⟨nx_m, nx_r⟩⟩ := hR
      simp only [renBlock, run_length, renS_length] at phis_r ins_r nx_r hcell
      clear phis_m ins_m nx_m
      rw [show cntBlockD ⟨phis, ins, jump, jon, nx⟩ = 2 + sumOf cntPhiD phis + sumOf cntInsD ins + nx.length from rfl] at hcnt
      unfold szBlockD at hz
      simp only at hz
      have hsz_phis : szS szPhiD phis ≤ 1048576 := by omega
      have hsz_ins : szS szInsD ins ≤ 1048576 := by omega
      have hsz_nx : nx.length ≤ 1048576 := by omega
      have HC := Lib.hid (And.intro hcnt htot)
      have hKb : k + (sumOf cntBlockD (xs.take j) : Nat) + (2 + sumOf cntPhiD phis + sumOf cntInsD ins + nx.length : Nat) ≤ 1099511627776 := by omega
      have hK0 : 0 ≤ k + (sumOf cntBlockD (xs.take j) : Nat) := by omega
      clear hcnt htot hx hz hcl
      generalize hK : k + (sumOf cntBlockD (xs.take j) : Nat) = K at hKb hK0 hcell phis_r ins_r nx_r ⊢
      have HK := Lib.hid hK
      clear hK
      have c0 : w.cell? ⟨b, off + j * 5, none⟩ = some (.slice phis_a phis.length phis_c) := hcell 0 _ rfl
      have n0 : decide (K + (sumOf cntPhiD phis : Nat) < 0) = false := decide_eq_false (by omega)
      have c1 : w.cell? ⟨b, off + j * 5 + 1, none⟩ = some (.slice ins_a ins.length ins_c) := hcell 1 _ rfl
      have n1 : decide (K + (sumOf cntPhiD phis : Nat) + (sumOf cntInsD ins : Nat) < 0) = false := decide_eq_false (by omega)
      have c2 : w.cell? ⟨b, off + j * 5 + 2, none⟩ = some (.int .i64 (K + (sumOf cntPhiD phis : Nat) + (sumOf cntInsD ins : Nat))) := hcell 2 _ rfl
      have e2 : ((K + (sumOf cntPhiD phis : Nat) + (sumOf cntInsD ins : Nat)) != (K + (sumOf cntPhiD phis : Nat) + (sumOf cntInsD ins : Nat))) = false := by simp
      have c3 : w.cell? ⟨b, off + j * 5 + 3, none⟩ = some (.int .i64 (K + (sumOf cntPhiD phis : Nat) + (sumOf cntInsD ins : Nat) + 1)) := hcell 3 _ rfl
      have e3 : ((K + (sumOf cntPhiD phis : Nat) + (sumOf cntInsD ins : Nat) + 1) != (K + (sumOf cntPhiD phis : Nat) + (sumOf cntInsD ins : Nat) + 1)) = false := by simp
      have c4 : w.cell? ⟨b, off + j * 5 + 4, none⟩ = some (.slice nx_a nx.length nx_c) := hcell 4 _ rfl
      have n4 : decide (K + (sumOf cntPhiD phis : Nat) + (sumOf cntInsD ins : Nat) + 1 + 1 + (nx.length : Int) < 0) = false := decide_eq_false (by omega)
      clear hcell
      go_wp2_with fail
      refine (heldPhiS_any phis_a phis.length phis_c phis _ w phis_r hsz_phis (by omega) (by omega)).mono ?_
      rintro e w1 ⟨rfl, rfl⟩
      go_wp2_with fail
      refine (heldInsS_any ins_a ins.length ins_c ins _ w ins_r hsz_ins (by omega) (by omega)).mono ?_
      rintro e w1 ⟨rfl, rfl⟩
      go_wp2_with fail
      refine (heldIntS_any nx_a nx.length nx_c _ w nx_r (by omega) (by omega) (by omega)).mono ?_
      rintro e w1 ⟨rfl, rfl⟩
      go_wp2
      go_round
      case rel => exact ⟨j + 1, by omega, by go_num, int_val_eq (by have h1 := HC.out.1; have h2 := HK.out; omega)⟩
      case measure => simp [intOf]; omega
    · obtain rfl : j = len := by omega
      have htk : xs.take j = xs := List.take_of_length_le (by have := HS.out.2; omega)
      have HT := Lib.hid htk
      clear htk
      go_wp2
      go_ret
      exact ⟨ret_int (by rw [HT.out]), rfl⟩

set_option maxRecDepth 100000 in
set_option maxHeartbeats 2000000 in
theorem heldCodeS_any (a : Option Addr) (len cap : Nat) (xs : List CodeD) (k : Int) (w : World) (h : SliceRd 3 CodeR w a len (renS cntCodeD renCode k xs)) (hs : szS szCodeD xs ≤ 1048576) (hk0 : 0 ≤ k) (hk : k + (sumOf cntCodeD xs : Nat) ≤ 1099511627776) :
    Calls Tryz.prog 32 #[.slice a len cap, .int .i64 k] w fun e w' => e = .returned (.int .i64 (k + (sumOf cntCodeD xs : Nat))) ∧ w = w' := by
  have hl : xs.length = len := by have := h.length; rwa [renS_length] at this
  have hlen : len ≤ 1048576 := by have := szS_len szCodeD xs; omega
  have HH := Lib.hid h
  have HS := Lib.hid (And.intro hs hl)
  clear h hs hl
  go_enter Tryz.func32, Tryz.ntmps32
  go_wp2
  go_loop [1, 5] (fun q i => ∃ j : Nat, j ≤ len ∧ i = .int .i64 j ∧ q = .int .i64 (k + (sumOf cntCodeD (xs.take j) : Nat))) (fun _ i => len - (intOf i).toNat)
  case atStart => exact ⟨0, Nat.zero_le _, rfl, int_val_eq (by simp [sumOf])⟩
  case round =>
    obtain ⟨j, hj, rfl, rfl⟩ := hrel
    by_cases hlt : j < len
    · obtain ⟨x, hx⟩ : ∃ x, xs[j]? = some x := ⟨_, List.getElem?_eq_getElem (by have := HS.out.2; omega)⟩
      obtain ⟨b, off, cs, y, rfl, hy, hcl, hcell, hR⟩ := HH.out.place (by decide) hlt
      rw [renS_get hx] at hy
      obtain rfl := Option.some.inj hy
      have hcnt : sumOf cntCodeD (xs.take (j + 1)) = sumOf cntCodeD (xs.take j) + cntCodeD x := by rw [take_succ_of hx, sumOf_snoc]
      have htot := sumOf_take cntCodeD xs (j + 1)
      have hz : szCodeD x ≤ 1048576 := Nat.le_trans (szS_mem (List.mem_of_getElem? hx)) HS.out.1
      obtain ⟨params, regs, blocks⟩ := x
      obtain ⟨blocks_a, blocks_c, rfl, ⟨blocks_m, blocks_r⟩⟩ := hR
      simp only [renCode, renS_length] at blocks_r hcell
      clear blocks_m
      rw [show cntCodeD ⟨params, regs, blocks⟩ = 2 + sumOf cntBlockD blocks from rfl] at hcnt
      unfold szCodeD at hz
      simp only at hz
      have hsz_blocks : szS szBlockD blocks ≤ 1048576 := by omega
      have HC := Lib.hid (And.intro hcnt htot)
      have hKb : k + (sumOf cntCodeD (xs.take j) : Nat) + (2 + sumOf cntBlockD blocks : Nat) ≤ 1099511627776 := by omega
      have hK0 : 0 ≤ k + (sumOf cntCodeD (xs.take j) : Nat) := by omega
      clear hcnt htot hx hz hcl
      generalize hK : k + (sumOf cntCodeD (xs.take j) : Nat) = K at hKb hK0 hcell blocks_r ⊢
      have HK := Lib.hid hK
      clear hK
      have c0 : w.cell? ⟨b, off + j * 3, none⟩ = some (.int .i64 (K)) := hcell 0 _ rfl
      have e0 : ((K) != (K)) = false := by simp
      have c1 : w.cell? ⟨b, off + j * 3 + 1, none⟩ = some (.int .i64 (K + 1)) := hcell 1 _ rfl
      have e1 : ((K + 1) != (K + 1)) = false := by simp
      have c2 : w.cell? ⟨b, off + j * 3 + 2, none⟩ = some (.slice blocks_a blocks.length blocks_c) := hcell 2 _ rfl
      have n2 : decide (K + 1 + 1 + (sumOf cntBlockD blocks : Nat) < 0) = false := decide_eq_false (by omega)
      clear hcell
      go_wp2_with fail
      refine (heldBlockS_any blocks_a blocks.length blocks_c blocks _ w blocks_r hsz_blocks (by omega) (by omega)).mono ?_
      rintro e w1 ⟨rfl, rfl⟩
      go_wp2
      go_round
      case rel => exact ⟨j + 1, by omega, by go_num, int_val_eq (by have h1 := HC.out.1; have h2 := HK.out; omega)⟩
      case measure => simp [intOf]; omega
    · obtain rfl : j = len := by omega
      have htk : xs.take j = xs := List.take_of_length_le (by have := HS.out.2; omega)
      have HT := Lib.hid htk
      clear htk
      go_wp2
      go_ret
      exact ⟨ret_int (by rw [HT.out]), rfl⟩

end Go.Proofs.YtonlidgmfmgcmaaGreat
