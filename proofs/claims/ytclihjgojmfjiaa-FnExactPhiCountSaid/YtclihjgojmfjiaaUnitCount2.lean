/-
  BlockCount, the reference's and the program's.
-/
import Derived.Test.YtclihjgojmfjiaaUnitCount
namespace Go.Proofs.Ytclihjgojmfjiaa
open Go.RowKit

def bksN (c : CodeD) : Nat := c.blocks.length
theorem bksN_le (c : CodeD) : bksN c ≤ szCodeD c := by unfold bksN szCodeD; exact szS_len szBlockD c.blocks
def blocksP (us : List CodeD) : Int := if unitB us then (sumOf bksN us : Nat) else -1
theorem sum_small {f : CodeD → Nat} (hf : ∀ c, f c ≤ szCodeD c) {us : List CodeD} (h : szS szCodeD us ≤ 1048576) : sumOf f us ≤ 1048576 := by
  have := sumOf_le hf us
  unfold szS at h
  omega

set_option maxRecDepth 100000 in
set_option maxHeartbeats 1000000 in
theorem blockCount_any (us : List CodeD) (ua : Option Addr) (uc : Nat) (hsz : szS szCodeD us ≤ 1048576) (w : World) (hU : SliceRd 3 CodeR w ua us.length us) :
    Calls Try.prog 86 #[.agg #[.slice ua us.length uc]] w fun e w' => e = .returned (.int .i64 (sumOf bksN us : Nat)) ∧ Below w.heap.size w w' := by
  have hb0 : Below w.heap.size w (w.alloc (.cells #[.slice ua us.length uc] 49)) := (Below.refl _ _).alloc (Nat.le_refl _) _
  have hc0 : (w.alloc (.cells #[.slice ua us.length uc] 49)).cell? ⟨w.heap.size, 0, none⟩ = some (.slice ua us.length uc) := cell_of_row _ _ 0 _ _ _ (heap_alloc_new w _)
  have hn2 : us.length ≤ 1048576 := Nat.le_trans (szS_len szCodeD us) hsz
  have hle := sum_small bksN_le hsz
  have HC := Lib.hid (And.intro (hU.later codeR_lasts hb0) hb0)
  clear hU hsz
  go_enter Try.func86, Try.ntmps86
  go_wp2_with fail
  generalize w.alloc (.cells #[.slice ua us.length uc] 49) = W0 at HC hc0 hb0 ⊢
  clear hb0 hc0
  go_loopg [3, 9] us.length (fun F n i wr => ∃ k : Nat, k + F = us.length ∧ i = .int .i64 k ∧ n = .int .i64 (sumOf bksN (us.take k) : Nat) ∧ Below W0.heap.size W0 wr)
  case atStart => exact ⟨0, by omega, rfl, rfl, Below.refl _ _⟩
  case round =>
    obtain ⟨k, hk, rfl, rfl, hbr⟩ := hrel
    by_cases hlt : k < us.length
    · obtain ⟨b1, o1, params, regs, blocks, ba, bc, rfl, hx, c0, c1, c2, hCR⟩ := code_place (HC.out.1.later codeR_lasts hbr) hlt
      have hts : sumOf bksN (us.take (k + 1)) = sumOf bksN (us.take k) + blocks.length := by rw [take_succ_of hx, sumOf_snoc]; rfl
      have htl := sumOf_take bksN us (k + 1)
      have HT := Lib.hid hts
      have hrow := heap_alloc_new wr (.cells #[.int .i64 params, .int .i64 regs, .slice ba blocks.length bc] 29)
      have hba : Below wr.heap.size wr (wr.alloc (.cells #[.int .i64 params, .int .i64 regs, .slice ba blocks.length bc] 29)) := (Below.refl _ _).alloc (Nat.le_refl _) _
      have m2 : (wr.alloc (.cells #[.int .i64 params, .int .i64 regs, .slice ba blocks.length bc] 29)).cell? ⟨wr.heap.size, 2, none⟩ = some (.slice ba blocks.length bc) := cell_of_row _ _ 2 _ _ _ hrow
      have hb1 := hbr.trans (hba.mono hbr.size)
      have hsum : sumOf bksN (us.take k) + blocks.length ≤ 1048576 := by omega
      clear hx hts hrow hCR hba htl
      generalize sumOf bksN (us.take k) = n0 at HT hsum ⊢
      go_wp2
      go_roundg (gk - 1)
      case measure => omega
      case rel => exact ⟨k + 1, by omega, by go_num, int_val (by have := HT.out; omega), hb1⟩
    · obtain rfl : k = us.length := by omega
      have HA := Lib.hid (show sumOf bksN (us.take us.length) = sumOf bksN us by rw [List.take_length])
      rw [HA.out]
      go_wp2
      go_ret
      exact ⟨rfl, HC.out.2.trans (hbr.mono HC.out.2.size)⟩

set_option maxRecDepth 100000 in
theorem implBlockCount_any (us : List CodeD) (ua : Option Addr) (uc : Nat) (hsz : szS szCodeD us ≤ 1048576) (w : World) (hU : SliceRd 3 CodeR w ua us.length us) :
    Calls Try.prog 46 #[.agg #[.slice ua us.length uc]] w fun e w' => e = .returned (.int .i64 (blocksP us)) ∧ Below w.heap.size w w' := by
  have hb0 : Below w.heap.size w (w.alloc (.cells #[.slice ua us.length uc] 49)) := (Below.refl _ _).alloc (Nat.le_refl _) _
  have hc0 : (w.alloc (.cells #[.slice ua us.length uc] 49)).cell? ⟨w.heap.size, 0, none⟩ = some (.slice ua us.length uc) := cell_of_row _ _ 0 _ _ _ (heap_alloc_new w _)
  have HC := Lib.hid (And.intro (implUnitValid_any us ua uc hsz _ (hU.later codeR_lasts hb0)) (And.intro hb0 (And.intro hU hsz)))
  clear hU hsz
  go_enter Try.func46, Try.ntmps46
  go_wp2_with fail
  refine HC.out.1.mono ?_
  cases hv : unitB us with
  | false =>
    have HN := Lib.hid (show blocksP us = -1 by rw [blocksP, hv]; rfl)
    clear hv
    rintro e w1 ⟨rfl, hb1⟩
    have HB1 := Lib.hid (HC.out.2.1.trans (hb1.mono HC.out.2.1.size))
    clear hb1
    go_wp2
    go_ret
    exact ⟨ret_int HN.out.symm, HB1.out⟩
  | true =>
    have HN := Lib.hid (show blocksP us = (sumOf bksN us : Nat) by rw [blocksP, hv, if_pos rfl])
    clear hv
    rintro e w1 ⟨rfl, hb1⟩
    have hc1 := cell_later hb1 hc0
    have HB1 := Lib.hid (HC.out.2.1.trans (hb1.mono HC.out.2.1.size))
    clear hb1 hc0 hb0
    go_wp2_with fail
    refine (blockCount_any us ua uc HC.out.2.2.2 w1 (HC.out.2.2.1.later codeR_lasts HB1.out)).mono ?_
    rintro e w2 ⟨rfl, hb2⟩
    have HB2 := Lib.hid (HB1.out.trans (hb2.mono HB1.out.size))
    clear hb2
    go_wp2
    go_ret
    exact ⟨ret_int HN.out.symm, HB2.out⟩

set_option maxRecDepth 100000 in
set_option maxHeartbeats 1000000 in
theorem specBlockCount_any (us : List CodeD) (ua : Option Addr) (uc : Nat) (hsz : szS szCodeD us ≤ 1048576) (w : World) (hU : SliceRd 3 CodeR w ua us.length us) :
    Calls Try.prog 45 #[.agg #[.slice ua us.length uc]] w fun e w' => e = .returned (.int .i64 (blocksP us)) ∧ Below w.heap.size w w' := by
  have hb0 : Below w.heap.size w (w.alloc (.cells #[.slice ua us.length uc] 49)) := (Below.refl _ _).alloc (Nat.le_refl _) _
  have hc0 : (w.alloc (.cells #[.slice ua us.length uc] 49)).cell? ⟨w.heap.size, 0, none⟩ = some (.slice ua us.length uc) := cell_of_row _ _ 0 _ _ _ (heap_alloc_new w _)
  have hn2 : us.length ≤ 1048576 := Nat.le_trans (szS_len szCodeD us) hsz
  have hle := sum_small bksN_le hsz
  have HC := Lib.hid (And.intro (specUnitValid_any us ua uc hsz _ (hU.later codeR_lasts hb0)) (And.intro hb0 (And.intro hU hsz)))
  clear hU hsz
  go_enter Try.func45, Try.ntmps45
  go_wp2_with fail
  refine HC.out.1.mono ?_
  cases hv : unitB us with
  | false =>
    have HN := Lib.hid (show blocksP us = -1 by rw [blocksP, hv]; rfl)
    clear hv
    rintro e w1 ⟨rfl, hb1⟩
    have HB1 := Lib.hid (HC.out.2.1.trans (hb1.mono HC.out.2.1.size))
    clear hb1
    go_wp2
    go_ret
    exact ⟨ret_int HN.out.symm, HB1.out⟩
  | true =>
    have HN := Lib.hid (show blocksP us = (sumOf bksN us : Nat) by rw [blocksP, hv, if_pos rfl])
    clear hv
    rintro e w1 ⟨rfl, hb1⟩
    have hc1 := cell_later hb1 hc0
    have HB1 := Lib.hid (And.intro (HC.out.2.1.trans (hb1.mono HC.out.2.1.size)) hc1)
    clear hb1 hc0 hb0 hc1
    go_wp2_with fail
    go_loopg [3, 4] us.length (fun F n i wr => ∃ k : Nat, k + F = us.length ∧ i = .int .i64 k ∧ n = .int .i64 (sumOf bksN (us.take k) : Nat) ∧ Below w1.heap.size w1 wr)
    case atStart => exact ⟨0, by omega, rfl, rfl, Below.refl _ _⟩
    case round =>
      obtain ⟨k, hk, rfl, rfl, hbr⟩ := hrel
      have u0 := cell_later hbr HB1.out.2
      have hbw := HB1.out.1.trans (hbr.mono HB1.out.1.size)
      by_cases hlt : k < us.length
      · obtain ⟨b1, o1, params, regs, blocks, ba, bc, rfl, hx, c0, c1, c2, hCR⟩ := code_place (HC.out.2.2.1.later codeR_lasts hbw) hlt
        have hts : sumOf bksN (us.take (k + 1)) = sumOf bksN (us.take k) + blocks.length := by rw [take_succ_of hx, sumOf_snoc]; rfl
        have htl := sumOf_take bksN us (k + 1)
        have HT := Lib.hid hts
        have hsum : sumOf bksN (us.take k) + blocks.length ≤ 1048576 := by omega
        clear hx hts hCR htl
        generalize sumOf bksN (us.take k) = n0 at HT hsum ⊢
        go_wp2
        go_roundg (gk - 1)
        case measure => omega
        case rel => exact ⟨k + 1, by omega, by go_num, int_val (by have := HT.out; omega), hbr⟩
      · obtain rfl : k = us.length := by omega
        have HA := Lib.hid (show sumOf bksN (us.take us.length) = sumOf bksN us by rw [List.take_length])
        rw [HA.out]
        go_wp2
        go_ret
        exact ⟨ret_int HN.out.symm, hbw⟩

end Go.Proofs.Ytclihjgojmfjiaa
