/-
  CodeSize and BlockCount, the reference's and the program's.
-/
import Derived.Test.YtclihjgojmfjiaaUvSpecUnit
namespace Go.Proofs.Ytclihjgojmfjiaa
open Go.RowKit

def kB (us : List CodeD) (k : Int) : Bool := decide (0 ≤ k) && decide (k ≤ (us.length : Int) - 1)
/-- The unit is valid, and has a code k. -/
def hasB (us : List CodeD) (k : Int) : Bool := unitB us && kB us k
theorem hasB_true {us : List CodeD} {k : Int} : hasB us k = true ↔ unitB us = true ∧ 0 ≤ k ∧ k < us.length := by
  simp [hasB, kB]; omega

set_option maxRecDepth 100000 in
theorem l12Has_any (us : List CodeD) (ua : Option Addr) (uc : Nat) (k : Int) (hsz : szS szCodeD us ≤ 1048576) (w : World) (hU : SliceRd 3 CodeR w ua us.length us) :
    Calls Try.prog 78 #[.agg #[.slice ua us.length uc], .int .i64 k] w fun e w' => e = .returned (.bool (hasB us k)) ∧ Below w.heap.size w w' := by
  have hb0 : Below w.heap.size w (w.alloc (.cells #[.slice ua us.length uc] 49)) := (Below.refl _ _).alloc (Nat.le_refl _) _
  have hrow := heap_alloc_new w (.cells #[.slice ua us.length uc] 49)
  have hc0 : (w.alloc (.cells #[.slice ua us.length uc] 49)).cell? ⟨w.heap.size, 0, none⟩ = some (.slice ua us.length uc) := cell_of_row _ _ 0 _ _ _ hrow
  have hn2 : us.length ≤ 1048576 := Nat.le_trans (szS_len szCodeD us) hsz
  have HC := Lib.hid (And.intro (specUnitValid_any us ua uc hsz _ (hU.later codeR_lasts hb0)) hb0)
  clear hU hrow
  go_enter Try.func78, Try.ntmps78
  go_wp2_with fail
  refine HC.out.1.mono ?_
  cases hv : unitB us with
  | false =>
    have HN := Lib.hid (show hasB us k = false by rw [hasB, hv]; rfl)
    clear hv
    rintro e w1 ⟨rfl, hb1⟩
    have hc1 := cell_later hb1 hc0
    go_wp2
    go_ret
    exact ⟨ret_bool HN.out.symm, HC.out.2.trans (hb1.mono HC.out.2.size)⟩
  | true =>
    have HN := Lib.hid (show hasB us k = kB us k by rw [hasB, hv]; rfl)
    clear hv
    rintro e w1 ⟨rfl, hb1⟩
    have hc1 := cell_later hb1 hc0
    have HB1 := Lib.hid (HC.out.2.trans (hb1.mono HC.out.2.size))
    clear hb1 hc0 hb0
    go_wp2_with fail
    refine (l1In_is (show (decide (0 ≤ k) && decide (k ≤ (us.length : Int) - 1)) = kB us k from rfl) _).mono ?_
    rintro e w2 ⟨rfl, rfl⟩
    go_wp2
    go_ret
    exact ⟨ret_bool HN.out.symm, HB1.out⟩
set_option maxRecDepth 100000 in
theorem codeAt_any (us : List CodeD) (ua : Option Addr) (uc : Nat) (k : Int) (hsz : szS szCodeD us ≤ 1048576) (w : World) (hU : SliceRd 3 CodeR w ua us.length us) :
    Calls Try.prog 81 #[.agg #[.slice ua us.length uc], .int .i64 k] w fun e w' => e = .returned (.bool (hasB us k)) ∧ Below w.heap.size w w' := by
  have hb0 : Below w.heap.size w (w.alloc (.cells #[.slice ua us.length uc] 49)) := (Below.refl _ _).alloc (Nat.le_refl _) _
  have hrow := heap_alloc_new w (.cells #[.slice ua us.length uc] 49)
  have hc0 : (w.alloc (.cells #[.slice ua us.length uc] 49)).cell? ⟨w.heap.size, 0, none⟩ = some (.slice ua us.length uc) := cell_of_row _ _ 0 _ _ _ hrow
  have hn2 : us.length ≤ 1048576 := Nat.le_trans (szS_len szCodeD us) hsz
  have HC := Lib.hid (And.intro (implUnitValid_any us ua uc hsz _ (hU.later codeR_lasts hb0)) hb0)
  clear hU hrow
  go_enter Try.func81, Try.ntmps81
  go_wp2_with fail
  refine HC.out.1.mono ?_
  cases hv : unitB us with
  | false =>
    have HN := Lib.hid (show hasB us k = false by rw [hasB, hv]; rfl)
    clear hv
    rintro e w1 ⟨rfl, hb1⟩
    have hc1 := cell_later hb1 hc0
    go_wp2
    go_ret
    exact ⟨ret_bool HN.out.symm, HC.out.2.trans (hb1.mono HC.out.2.size)⟩
  | true =>
    have HN := Lib.hid (show hasB us k = kB us k by rw [hasB, hv]; rfl)
    clear hv
    rintro e w1 ⟨rfl, hb1⟩
    have hc1 := cell_later hb1 hc0
    have HB1 := Lib.hid (HC.out.2.trans (hb1.mono HC.out.2.size))
    clear hb1 hc0 hb0
    go_wp2_with fail
    refine (within_is (show (decide (0 ≤ k) && decide (k ≤ (us.length : Int) - 1)) = kB us k from rfl) _).mono ?_
    rintro e w2 ⟨rfl, rfl⟩
    go_wp2
    go_ret
    exact ⟨ret_bool HN.out.symm, HB1.out⟩

def sizeP (us : List CodeD) (k : Int) : Int := if hasB us k then ((us[k.toNat]?).map (fun c => (cntC c : Int))).getD 0 else -1

set_option maxRecDepth 100000 in
set_option maxHeartbeats 1000000 in
theorem l19Size_any (cs : List Value) (c : CodeD) (w : World) (hR : CodeR w cs c) (hs : szCodeD c ≤ 1048576) :
    Calls Try.prog 79 #[.agg cs.toArray] w fun e w' => e = .returned (.int .i64 (cntC c : Nat)) ∧ Below w.heap.size w w' := by
  obtain ⟨params, regs, blocks⟩ := c
  obtain ⟨ba, bc, rfl, _, hrd⟩ := hR
  have hle : cntC ⟨params, regs, blocks⟩ ≤ 1048576 := Nat.le_trans (cntC_le _) hs
  have hle : sumOf cntB blocks ≤ 1048576 := hle
  have hbl : blocks.length ≤ 1048576 := by unfold szCodeD at hs; exact Nat.le_trans (szS_len szBlockD blocks) hs
  have hb0 : Below w.heap.size w (w.alloc (.cells #[.int .i64 params, .int .i64 regs, .slice ba blocks.length bc] 29)) := (Below.refl _ _).alloc (Nat.le_refl _) _
  have hc2 : (w.alloc (.cells #[.int .i64 params, .int .i64 regs, .slice ba blocks.length bc] 29)).cell? ⟨w.heap.size, 2, none⟩ = some (.slice ba blocks.length bc) := cell_of_row _ _ 2 _ _ _ (heap_alloc_new w _)
  have HC := Lib.hid (And.intro (hrd.later blockR_lasts hb0) (And.intro hc2 hb0))
  clear hrd hs
  go_enter Try.func79, Try.ntmps79
  go_wp2_with fail
  generalize w.alloc (.cells #[.int .i64 params, .int .i64 regs, .slice ba blocks.length bc] 29) = W0 at HC ⊢
  clear hb0 hc2
  go_loopg [3, 4] blocks.length (fun F n i wr => ∃ k : Nat, k + F = blocks.length ∧ i = .int .i64 k ∧ n = .int .i64 (sumOf cntB (blocks.take k) : Nat) ∧ Below W0.heap.size W0 wr)
  case atStart => exact ⟨0, by omega, rfl, rfl, Below.refl _ _⟩
  case round =>
    obtain ⟨k, hk, rfl, rfl, hbr⟩ := hrel
    have v2 := cell_later hbr HC.out.2.1
    by_cases hlt : k < blocks.length
    · obtain ⟨b1, o1, phis, ins, jump, jon, nx, pa, pc, ia, ic, na, nc, rfl, hx, c0, c1, c2, c3, c4, hR⟩ := block_place (HC.out.1.later blockR_lasts hbr) hlt
      have hts : sumOf cntB (blocks.take (k + 1)) = sumOf cntB (blocks.take k) + (phis.length + ins.length) := by rw [take_succ_of hx, sumOf_snoc]; rfl
      have htl := sumOf_take cntB blocks (k + 1)
      have HT := Lib.hid hts
      have hsum : sumOf cntB (blocks.take k) + (phis.length + ins.length) ≤ 1048576 := by omega
      clear hx hts hR htl c2 c3 c4
      generalize sumOf cntB (blocks.take k) = n0 at HT hsum ⊢
      go_wp2_with fail
      go_quiet (fail)
      go_wp2
      go_roundg (gk - 1)
      case measure => omega
      case rel => exact ⟨k + 1, by omega, by go_num, int_val (by have := HT.out; omega), below_drewN hbr _⟩
    · obtain rfl : k = blocks.length := by omega
      have HA := Lib.hid (show sumOf cntB (blocks.take blocks.length) = cntC ⟨params, regs, blocks⟩ by rw [List.take_length]; rfl)
      rw [HA.out]
      go_wp2
      go_ret
      exact ⟨rfl, HC.out.2.2.trans (hbr.mono HC.out.2.2.size)⟩

set_option maxRecDepth 100000 in
theorem specCodeSize_any (us : List CodeD) (ua : Option Addr) (uc : Nat) (k : Int) (hsz : szS szCodeD us ≤ 1048576) (w : World) (hU : SliceRd 3 CodeR w ua us.length us) :
    Calls Try.prog 41 #[.agg #[.slice ua us.length uc], .int .i64 k] w fun e w' => e = .returned (.int .i64 (sizeP us k)) ∧ Below w.heap.size w w' := by
  have hb0 : Below w.heap.size w (w.alloc (.cells #[.slice ua us.length uc] 49)) := (Below.refl _ _).alloc (Nat.le_refl _) _
  have hrow := heap_alloc_new w (.cells #[.slice ua us.length uc] 49)
  have hc0 : (w.alloc (.cells #[.slice ua us.length uc] 49)).cell? ⟨w.heap.size, 0, none⟩ = some (.slice ua us.length uc) := cell_of_row _ _ 0 _ _ _ hrow
  have HC := Lib.hid (And.intro (l12Has_any us ua uc k hsz _ (hU.later codeR_lasts hb0)) (And.intro hb0 (And.intro hU hsz)))
  have hn2 : us.length ≤ 1048576 := Nat.le_trans (szS_len szCodeD us) hsz
  clear hU hrow
  go_enter Try.func41, Try.ntmps41
  go_wp2_with fail
  refine HC.out.1.mono ?_
  cases hv : hasB us k with
  | false =>
    have HN := Lib.hid (show sizeP us k = -1 by rw [sizeP, hv]; rfl)
    clear hv
    rintro e w1 ⟨rfl, hb1⟩
    have HB1 := Lib.hid (HC.out.2.1.trans (hb1.mono HC.out.2.1.size))
    clear hb1
    go_wp2
    go_ret
    exact ⟨ret_int HN.out.symm, HB1.out⟩
  | true =>
    obtain ⟨_, h0, hl⟩ := hasB_true.1 hv
    obtain ⟨m, rfl⟩ : ∃ m : Nat, k = (m : Int) := ⟨k.toNat, by omega⟩
    have hm : m < us.length := by omega
    have hmi : (m : Int) < (us.length : Int) := hl
    rintro e w1 ⟨rfl, hb1⟩
    have hc1 := cell_later hb1 hc0
    have HB1 := Lib.hid (HC.out.2.1.trans (hb1.mono HC.out.2.1.size))
    have hU1 := HC.out.2.2.1.later codeR_lasts HB1.out
    obtain ⟨b1, o1, params, regs, blocks, ba, bc, rfl, hx, c0, c1, c2, hCR⟩ := code_place hU1 hm
    have hz := (szS_get (sz := szCodeD) HC.out.2.2.2 hx).1
    have HN := Lib.hid (show sizeP us (m : Int) = (cntC ⟨params, regs, blocks⟩ : Int) by rw [sizeP, hv, if_pos rfl, Int.toNat_natCast, hx]; rfl)
    have HP := Lib.hid (l19Size_any _ ⟨params, regs, blocks⟩ w1 hCR hz)
    clear hv h0 hl hb1 hc0 hb0 hU1 hx hCR hz
    go_wp2_with fail
    refine HP.out.mono ?_
    rintro e w2 ⟨rfl, hb2⟩
    have HB2 := Lib.hid (HB1.out.trans (hb2.mono HB1.out.size))
    clear hb2
    go_wp2
    go_ret
    exact ⟨ret_int HN.out.symm, HB2.out⟩
set_option maxRecDepth 100000 in
theorem implCodeSize_any (us : List CodeD) (ua : Option Addr) (uc : Nat) (k : Int) (hsz : szS szCodeD us ≤ 1048576) (w : World) (hU : SliceRd 3 CodeR w ua us.length us) :
    Calls Try.prog 43 #[.agg #[.slice ua us.length uc], .int .i64 k] w fun e w' => e = .returned (.int .i64 (sizeP us k)) ∧ Below w.heap.size w w' := by
  have hb0 : Below w.heap.size w (w.alloc (.cells #[.slice ua us.length uc] 49)) := (Below.refl _ _).alloc (Nat.le_refl _) _
  have hrow := heap_alloc_new w (.cells #[.slice ua us.length uc] 49)
  have hc0 : (w.alloc (.cells #[.slice ua us.length uc] 49)).cell? ⟨w.heap.size, 0, none⟩ = some (.slice ua us.length uc) := cell_of_row _ _ 0 _ _ _ hrow
  have HC := Lib.hid (And.intro (codeAt_any us ua uc k hsz _ (hU.later codeR_lasts hb0)) (And.intro hb0 (And.intro hU hsz)))
  have hn2 : us.length ≤ 1048576 := Nat.le_trans (szS_len szCodeD us) hsz
  clear hU hrow
  go_enter Try.func43, Try.ntmps43
  go_wp2_with fail
  refine HC.out.1.mono ?_
  cases hv : hasB us k with
  | false =>
    have HN := Lib.hid (show sizeP us k = -1 by rw [sizeP, hv]; rfl)
    clear hv
    rintro e w1 ⟨rfl, hb1⟩
    have HB1 := Lib.hid (HC.out.2.1.trans (hb1.mono HC.out.2.1.size))
    clear hb1
    go_wp2
    go_ret
    exact ⟨ret_int HN.out.symm, HB1.out⟩
  | true =>
    obtain ⟨_, h0, hl⟩ := hasB_true.1 hv
    obtain ⟨m, rfl⟩ : ∃ m : Nat, k = (m : Int) := ⟨k.toNat, by omega⟩
    have hm : m < us.length := by omega
    have hmi : (m : Int) < (us.length : Int) := hl
    rintro e w1 ⟨rfl, hb1⟩
    have hc1 := cell_later hb1 hc0
    have HB1 := Lib.hid (HC.out.2.1.trans (hb1.mono HC.out.2.1.size))
    have hU1 := HC.out.2.2.1.later codeR_lasts HB1.out
    obtain ⟨b1, o1, params, regs, blocks, ba, bc, rfl, hx, c0, c1, c2, hCR⟩ := code_place hU1 hm
    have hz := (szS_get (sz := szCodeD) HC.out.2.2.2 hx).1
    have HN := Lib.hid (show sizeP us (m : Int) = (cntC ⟨params, regs, blocks⟩ : Int) by rw [sizeP, hv, if_pos rfl, Int.toNat_natCast, hx]; rfl)
    have HP := Lib.hid (codeCount_any _ ⟨params, regs, blocks⟩ w1 hCR hz)
    clear hv h0 hl hb1 hc0 hb0 hU1 hx hCR hz
    go_wp2_with fail
    refine HP.out.mono ?_
    rintro e w2 ⟨rfl, hb2⟩
    have HB2 := Lib.hid (HB1.out.trans (hb2.mono HB1.out.size))
    clear hb2
    go_wp2
    go_ret
    exact ⟨ret_int HN.out.symm, HB2.out⟩

end Go.Proofs.Ytclihjgojmfjiaa
