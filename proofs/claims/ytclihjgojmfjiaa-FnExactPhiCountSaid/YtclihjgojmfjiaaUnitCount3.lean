/-
  PhiCount, the reference's and the program's.
-/
import Derived.Test.YtclihjgojmfjiaaUnitCount2
namespace Go.Proofs.Ytclihjgojmfjiaa
open Go.RowKit

def phB (x : BlockD) : Nat := x.phis.length
def phC (c : CodeD) : Nat := sumOf phB c.blocks
theorem phB_le (x : BlockD) : phB x ≤ szBlockD x := by
  have := szS_len szPhiD x.phis
  unfold phB szBlockD
  omega
theorem phC_le (c : CodeD) : phC c ≤ szCodeD c := by
  have := sumOf_le phB_le c.blocks
  unfold phC szCodeD szS
  omega
def phisP (us : List CodeD) : Int := if unitB us then (sumOf phC us : Nat) else -1

set_option maxRecDepth 100000 in
set_option maxHeartbeats 1000000 in
theorem phiCount_any (cs : List Value) (c : CodeD) (w : World) (hR : CodeR w cs c) (hs : szCodeD c ≤ 1048576) :
    Calls Try.prog 87 #[.agg cs.toArray] w fun e w' => e = .returned (.int .i64 (phC c : Nat)) ∧ Below w.heap.size w w' := by
  obtain ⟨params, regs, blocks⟩ := c
  obtain ⟨ba, bc, rfl, _, hrd⟩ := hR
  have hle : phC ⟨params, regs, blocks⟩ ≤ 1048576 := Nat.le_trans (phC_le _) hs
  have hle : sumOf phB blocks ≤ 1048576 := hle
  have hbl : blocks.length ≤ 1048576 := by unfold szCodeD at hs; exact Nat.le_trans (szS_len szBlockD blocks) hs
  have hb0 : Below w.heap.size w (w.alloc (.cells #[.int .i64 params, .int .i64 regs, .slice ba blocks.length bc] 29)) := (Below.refl _ _).alloc (Nat.le_refl _) _
  have hc2 : (w.alloc (.cells #[.int .i64 params, .int .i64 regs, .slice ba blocks.length bc] 29)).cell? ⟨w.heap.size, 2, none⟩ = some (.slice ba blocks.length bc) := cell_of_row _ _ 2 _ _ _ (heap_alloc_new w _)
  have HC := Lib.hid (And.intro (hrd.later blockR_lasts hb0) (And.intro hs hb0))
  clear hrd hs
  go_enter Try.func87, Try.ntmps87
  go_wp2_with fail
  generalize w.alloc (.cells #[.int .i64 params, .int .i64 regs, .slice ba blocks.length bc] 29) = W0 at HC ⊢
  clear hb0 hc2
  go_loopg [3, 9] blocks.length (fun F n i wr => ∃ k : Nat, k + F = blocks.length ∧ i = .int .i64 k ∧ n = .int .i64 (sumOf phB (blocks.take k) : Nat) ∧ Below W0.heap.size W0 wr)
  case atStart => exact ⟨0, by omega, rfl, rfl, Below.refl _ _⟩
  case round =>
    obtain ⟨k, hk, rfl, rfl, hbr⟩ := hrel
    by_cases hlt : k < blocks.length
    · obtain ⟨b1, o1, phis, ins, jump, jon, nx, pa, pc, ia, ic, na, nc, rfl, hx, c0, c1, c2, c3, c4, hR⟩ := block_place (HC.out.1.later blockR_lasts hbr) hlt
      have hts : sumOf phB (blocks.take (k + 1)) = sumOf phB (blocks.take k) + phis.length := by rw [take_succ_of hx, sumOf_snoc]; rfl
      have htl := sumOf_take phB blocks (k + 1)
      have HT := Lib.hid hts
      have hrow := heap_alloc_new wr (.cells #[.slice pa phis.length pc, .slice ia ins.length ic, .int .i64 jump, .int .i64 jon, .slice na nx.length nc] 90)
      have hba : Below wr.heap.size wr (wr.alloc (.cells #[.slice pa phis.length pc, .slice ia ins.length ic, .int .i64 jump, .int .i64 jon, .slice na nx.length nc] 90)) := (Below.refl _ _).alloc (Nat.le_refl _) _
      have m0 : (wr.alloc (.cells #[.slice pa phis.length pc, .slice ia ins.length ic, .int .i64 jump, .int .i64 jon, .slice na nx.length nc] 90)).cell? ⟨wr.heap.size, 0, none⟩ = some (.slice pa phis.length pc) := cell_of_row _ _ 0 _ _ _ hrow
      have hb1 := hbr.trans (hba.mono hbr.size)
      have hsum : sumOf phB (blocks.take k) + phis.length ≤ 1048576 := by omega
      clear hx hts hrow hR hba htl
      generalize sumOf phB (blocks.take k) = n0 at HT hsum ⊢
      go_wp2
      go_roundg (gk - 1)
      case measure => omega
      case rel => exact ⟨k + 1, by omega, by go_num, int_val (by have := HT.out; omega), hb1⟩
    · obtain rfl : k = blocks.length := by omega
      have HA := Lib.hid (show sumOf phB (blocks.take blocks.length) = phC ⟨params, regs, blocks⟩ by rw [List.take_length]; rfl)
      rw [HA.out]
      go_wp2
      go_ret
      exact ⟨rfl, HC.out.2.2.trans (hbr.mono HC.out.2.2.size)⟩

set_option maxRecDepth 100000 in
set_option maxHeartbeats 1000000 in
theorem implPhiCount_any (us : List CodeD) (ua : Option Addr) (uc : Nat) (hsz : szS szCodeD us ≤ 1048576) (w : World) (hU : SliceRd 3 CodeR w ua us.length us) :
    Calls Try.prog 48 #[.agg #[.slice ua us.length uc]] w fun e w' => e = .returned (.int .i64 (phisP us)) ∧ Below w.heap.size w w' := by
  have hb0 : Below w.heap.size w (w.alloc (.cells #[.slice ua us.length uc] 49)) := (Below.refl _ _).alloc (Nat.le_refl _) _
  have hc0 : (w.alloc (.cells #[.slice ua us.length uc] 49)).cell? ⟨w.heap.size, 0, none⟩ = some (.slice ua us.length uc) := cell_of_row _ _ 0 _ _ _ (heap_alloc_new w _)
  have hn2 : us.length ≤ 1048576 := Nat.le_trans (szS_len szCodeD us) hsz
  have hle := sum_small phC_le hsz
  have HC := Lib.hid (And.intro (implUnitValid_any us ua uc hsz _ (hU.later codeR_lasts hb0)) (And.intro hb0 (And.intro hU hsz)))
  clear hU hsz
  go_enter Try.func48, Try.ntmps48
  go_wp2_with fail
  refine HC.out.1.mono ?_
  cases hv : unitB us with
  | false =>
    have HN := Lib.hid (show phisP us = -1 by rw [phisP, hv]; rfl)
    clear hv
    rintro e w1 ⟨rfl, hb1⟩
    have HB1 := Lib.hid (HC.out.2.1.trans (hb1.mono HC.out.2.1.size))
    clear hb1
    go_wp2
    go_ret
    exact ⟨ret_int HN.out.symm, HB1.out⟩
  | true =>
    have HN := Lib.hid (show phisP us = (sumOf phC us : Nat) by rw [phisP, hv, if_pos rfl])
    clear hv
    rintro e w1 ⟨rfl, hb1⟩
    have hc1 := cell_later hb1 hc0
    have HB1 := Lib.hid (HC.out.2.1.trans (hb1.mono HC.out.2.1.size))
    clear hb1 hc0 hb0
    go_wp2_with fail
    clear hc1
    go_loopg [3, 12] us.length (fun F n i wr => ∃ k : Nat, k + F = us.length ∧ i = .int .i64 k ∧ n = .int .i64 (sumOf phC (us.take k) : Nat) ∧ Below w1.heap.size w1 wr)
    case atStart => exact ⟨0, by omega, rfl, rfl, Below.refl _ _⟩
    case round =>
      obtain ⟨k, hk, rfl, rfl, hbr⟩ := hrel
      have hbw := HB1.out.trans (hbr.mono HB1.out.size)
      by_cases hlt : k < us.length
      · obtain ⟨b1, o1, params, regs, blocks, ba, bc, rfl, hx, c0, c1, c2, hCR⟩ := code_place (HC.out.2.2.1.later codeR_lasts hbw) hlt
        have hz := (szS_get (sz := szCodeD) HC.out.2.2.2 hx).1
        have hts : sumOf phC (us.take (k + 1)) = sumOf phC (us.take k) + phC ⟨params, regs, blocks⟩ := by rw [take_succ_of hx, sumOf_snoc]
        have htl := sumOf_take phC us (k + 1)
        have hrow := heap_alloc_new wr (.cells #[.int .i64 params, .int .i64 regs, .slice ba blocks.length bc] 29)
        have hba : Below wr.heap.size wr (wr.alloc (.cells #[.int .i64 params, .int .i64 regs, .slice ba blocks.length bc] 29)) := (Below.refl _ _).alloc (Nat.le_refl _) _
        have v0 : (wr.alloc (.cells #[.int .i64 params, .int .i64 regs, .slice ba blocks.length bc] 29)).cell? ⟨wr.heap.size, 0, none⟩ = some (.int .i64 params) := cell_of_row _ _ 0 _ _ _ hrow
        have v1 : (wr.alloc (.cells #[.int .i64 params, .int .i64 regs, .slice ba blocks.length bc] 29)).cell? ⟨wr.heap.size, 1, none⟩ = some (.int .i64 regs) := cell_of_row _ _ 1 _ _ _ hrow
        have v2 : (wr.alloc (.cells #[.int .i64 params, .int .i64 regs, .slice ba blocks.length bc] 29)).cell? ⟨wr.heap.size, 2, none⟩ = some (.slice ba blocks.length bc) := cell_of_row _ _ 2 _ _ _ hrow
        have hsum : sumOf phC (us.take k) + phC ⟨params, regs, blocks⟩ ≤ 1048576 := by omega
        have HT := Lib.hid (And.intro hts (And.intro (phiCount_any _ ⟨params, regs, blocks⟩ _ (codeR_lasts _ _ _ _ hba hCR) hz) (hbr.trans (hba.mono hbr.size))))
        clear hx hts hrow hCR hba htl hz
        generalize sumOf phC (us.take k) = n0 at HT hsum ⊢
        go_wp2_with fail
        refine HT.out.2.1.mono ?_
        rintro e w6 ⟨rfl, hb6⟩
        have HB6 := Lib.hid (HT.out.2.2.trans (hb6.mono HT.out.2.2.size))
        have HS := Lib.hid HT.out.1
        clear hb6 HT v0 v1 v2 c0 c1 c2
        generalize phC ⟨params, regs, blocks⟩ = n1 at HS hsum ⊢
        go_wp2
        go_roundg (gk - 1)
        case measure => omega
        case rel => exact ⟨k + 1, by omega, by go_num, int_val (by have := HS.out; omega), HB6.out⟩
      · obtain rfl : k = us.length := by omega
        have HA := Lib.hid (show sumOf phC (us.take us.length) = sumOf phC us by rw [List.take_length])
        rw [HA.out]
        go_wp2
        go_ret
        exact ⟨ret_int HN.out.symm, hbw⟩

/-- What has been counted up to block b of code k. -/
def phTo (us : List CodeD) (k : Nat) (blocks : List BlockD) (b : Nat) : Nat := sumOf phC (us.take k) + sumOf phB (blocks.take b)
theorem phTo_succ {us : List CodeD} {k b : Nat} {blocks : List BlockD} {x : BlockD} (hx : blocks[b]? = some x) : phTo us k blocks (b + 1) = phTo us k blocks b + x.phis.length := by
  unfold phTo
  rw [take_succ_of hx, sumOf_snoc, phB]; omega
theorem phTo_end {us : List CodeD} {k : Nat} {c : CodeD} (hk : us[k]? = some c) : phTo us k c.blocks c.blocks.length = sumOf phC (us.take (k + 1)) := by
  unfold phTo
  rw [take_succ_of hk, sumOf_snoc, List.take_length]; rfl
theorem phTo_le {us : List CodeD} {k : Nat} {c : CodeD} (hk : us[k]? = some c) (b : Nat) : phTo us k c.blocks b ≤ sumOf phC us := by
  have h1 := sumOf_pre phB c.blocks b
  have h2 := sumOf_pre phC us (k + 1)
  rw [take_succ_of hk, sumOf_snoc] at h2
  unfold phTo
  have : phC c = sumOf phB c.blocks := rfl
  omega

set_option maxRecDepth 100000 in
set_option maxHeartbeats 2000000 in
theorem specPhiCount_any (us : List CodeD) (ua : Option Addr) (uc : Nat) (hsz : szS szCodeD us ≤ 1048576) (w : World) (hU : SliceRd 3 CodeR w ua us.length us) :
    Calls Try.prog 47 #[.agg #[.slice ua us.length uc]] w fun e w' => e = .returned (.int .i64 (phisP us)) ∧ Below w.heap.size w w' := by
  have hb0 : Below w.heap.size w (w.alloc (.cells #[.slice ua us.length uc] 49)) := (Below.refl _ _).alloc (Nat.le_refl _) _
  have hc0 : (w.alloc (.cells #[.slice ua us.length uc] 49)).cell? ⟨w.heap.size, 0, none⟩ = some (.slice ua us.length uc) := cell_of_row _ _ 0 _ _ _ (heap_alloc_new w _)
  have hn2 : us.length ≤ 1048576 := Nat.le_trans (szS_len szCodeD us) hsz
  have hle := sum_small phC_le hsz
  have HC := Lib.hid (And.intro (specUnitValid_any us ua uc hsz _ (hU.later codeR_lasts hb0)) (And.intro hb0 (And.intro hU hsz)))
  clear hU hsz
  go_enter Try.func47, Try.ntmps47
  go_wp2_with fail
  refine HC.out.1.mono ?_
  cases hv : unitB us with
  | false =>
    have HN := Lib.hid (show phisP us = -1 by rw [phisP, hv]; rfl)
    clear hv
    rintro e w1 ⟨rfl, hb1⟩
    have HB1 := Lib.hid (HC.out.2.1.trans (hb1.mono HC.out.2.1.size))
    clear hb1
    go_wp2
    go_ret
    exact ⟨ret_int HN.out.symm, HB1.out⟩
  | true =>
    have HN := Lib.hid (show phisP us = (sumOf phC us : Nat) by rw [phisP, hv, if_pos rfl])
    clear hv
    rintro e w1 ⟨rfl, hb1⟩
    have hc1 := cell_later hb1 hc0
    have HB1 := Lib.hid (And.intro (HC.out.2.1.trans (hb1.mono HC.out.2.1.size)) hc1)
    clear hb1 hc0 hb0 hc1
    go_wp2_with fail
    go_loopg [3, 4] us.length (fun F n i wr => ∃ k : Nat, k + F = us.length ∧ i = .int .i64 k ∧ n = .int .i64 (sumOf phC (us.take k) : Nat) ∧ Below w1.heap.size w1 wr)
    case atStart => exact ⟨0, by omega, rfl, rfl, Below.refl _ _⟩
    case round =>
      obtain ⟨k, hk, rfl, rfl, hbr⟩ := hrel
      have u0 := cell_later hbr HB1.out.2
      have hbw := HB1.out.1.trans (hbr.mono HB1.out.1.size)
      by_cases hlt : k < us.length
      · obtain ⟨b1, o1, params, regs, blocks, ba, bc, rfl, hx, c0, c1, c2, hCR⟩ := code_place (HC.out.2.2.1.later codeR_lasts hbw) hlt
        have hz := (szS_get (sz := szCodeD) HC.out.2.2.2 hx).1
        have hbl : blocks.length ≤ 1048576 := by unfold szCodeD at hz; exact Nat.le_trans (szS_len szBlockD blocks) hz
        have hrd : SliceRd 5 BlockR wr ba blocks.length blocks := by
          obtain ⟨_, _, hcs, _, h⟩ := hCR
          simp only [List.cons.injEq, Value.slice.injEq, and_true, true_and] at hcs
          obtain ⟨rfl, rfl⟩ := hcs
          exact h
        have hst : phTo us k blocks 0 = sumOf phC (us.take k) := by simp [phTo, sumOf]
        have HX := Lib.hid (And.intro hx (And.intro hrd (And.intro hbr (And.intro u0 c2))))
        have hk8 : sumOf phC (us.take k) ≤ 1048576 := by have := sumOf_pre phC us k; omega
        have hmi : (k : Int) < (us.length : Int) := by omega
        rw [← hst] at hk8 ⊢
        clear hx hCR hz hrd hst hbw hbr
        go_wp2_with fail
        obtain ⟨wa, hwa⟩ : ∃ wa, wa = wr := ⟨_, rfl⟩
        subst hwa
        clear u0 c0 c1 c2
        go_loopg [3, 5] blocks.length (fun F n j wq => ∃ b : Nat, b + F = blocks.length ∧ j = .int .i64 b ∧ n = .int .i64 (phTo us k blocks b : Nat) ∧ Below wa.heap.size wa wq)
        case atStart => exact ⟨0, by omega, rfl, rfl, Below.refl _ _⟩
        case round =>
          obtain ⟨b, hb, rfl, rfl, hbq⟩ := hrel
          have u0 := cell_later hbq HX.out.2.2.2.1
          have c2 := cell_later hbq HX.out.2.2.2.2
          by_cases hlt2 : b < blocks.length
          · obtain ⟨b2, o2, phis, ins, jump, jon, nx, pa, pc, ia, ic, na, nc, rfl, hxb, g0, g1, g2, g3, g4, hR⟩ := block_place (HX.out.2.1.later blockR_lasts hbq) hlt2
            have hts := phTo_succ (us := us) (k := k) hxb
            have htl := phTo_le HX.out.1 (b + 1)
            have hts : phTo us k blocks (b + 1) = phTo us k blocks b + phis.length := hts
            have htl : phTo us k blocks (b + 1) ≤ sumOf phC us := htl
            have HT := Lib.hid hts
            have hsum : phTo us k blocks b + phis.length ≤ 1048576 := by omega
            clear hxb hts htl hR g1 g2 g3 g4
            generalize phTo us k blocks b = n0 at HT hsum ⊢
            go_wp2
            go_roundg (gk - 1)
            case measure => omega
            case rel => exact ⟨b + 1, by omega, by go_num, int_val (by have := HT.out; omega), hbq⟩
          · obtain rfl : b = blocks.length := by omega
            have HE := Lib.hid (phTo_end HX.out.1)
            have HE2 : Hid (phTo us k blocks blocks.length = sumOf phC (us.take (k + 1))) := Lib.hid HE.out
            go_wp2
            go_roundg (us.length - (k + 1))
            case measure => omega
            case rel => exact ⟨k + 1, by omega, by go_num, by rw [HE2.out], HX.out.2.2.1.trans (hbq.mono HX.out.2.2.1.size)⟩
      · obtain rfl : k = us.length := by omega
        have HA := Lib.hid (show sumOf phC (us.take us.length) = sumOf phC us by rw [List.take_length])
        rw [HA.out]
        go_wp2
        go_ret
        exact ⟨ret_int HN.out.symm, hbw⟩

end Go.Proofs.Ytclihjgojmfjiaa
