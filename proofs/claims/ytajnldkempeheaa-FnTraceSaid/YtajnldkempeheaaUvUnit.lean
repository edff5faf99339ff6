/-
  The program's test of a unit.
-/
import Derived.Test.YtajnldkempeheaaUvCode2

namespace Go.Proofs.Ytajnldkempeheaa
open Go.RowKit

def cntB (x : BlockD) : Nat := x.phis.length + x.ins.length
def cntC (c : CodeD) : Nat := sumOf cntB c.blocks
theorem cntB_le (x : BlockD) : cntB x ≤ szBlockD x := by
  have := szS_len szPhiD x.phis
  have := szS_len szInsD x.ins
  unfold cntB szBlockD
  omega
theorem sumOf_le {α : Type} {f g : α → Nat} (h : ∀ x, f x ≤ g x) : ∀ xs : List α, sumOf f xs ≤ sumOf g xs
  | [] => Nat.le_refl _
  | x :: xs => by
    have := sumOf_le h xs
    have := h x
    unfold sumOf at *
    simp only [List.map_cons, List.sum_cons]
    omega
theorem cntC_le (c : CodeD) : cntC c ≤ szCodeD c := by
  have := sumOf_le cntB_le c.blocks
  unfold cntC szCodeD szS
  omega
def limB (us : List CodeD) : Bool := decide (1 ≤ (us.length : Int)) && decide ((us.length : Int) ≤ 4)
/-- The unit is valid. -/
def unitB (us : List CodeD) : Bool := limB us && allTo (fun k => (us[k]?).all (codeB us k)) us.length && decide ((sumOf cntC us : Int) ≤ 800)

set_option maxRecDepth 100000 in
set_option maxHeartbeats 1000000 in
theorem codeCount_any (cs : List Value) (c : CodeD) (w : World) (hR : CodeR w cs c) (hs : szCodeD c ≤ 1048576) :
    Calls Try.prog 41 #[.agg cs.toArray] w fun e w' => e = .returned (.int .i64 (cntC c : Nat)) ∧ Below w.heap.size w w' := by
  obtain ⟨params, regs, blocks⟩ := c
  obtain ⟨ba, bc, rfl, _, hrd⟩ := hR
  have hle : cntC ⟨params, regs, blocks⟩ ≤ 1048576 := Nat.le_trans (cntC_le _) hs
  have hle : sumOf cntB blocks ≤ 1048576 := hle
  have hbl : blocks.length ≤ 1048576 := by unfold szCodeD at hs; exact Nat.le_trans (szS_len szBlockD blocks) hs
  have hb0 : Below w.heap.size w (w.alloc (.cells #[.int .i64 params, .int .i64 regs, .slice ba blocks.length bc] 37)) := (Below.refl _ _).alloc (Nat.le_refl _) _
  have hc2 : (w.alloc (.cells #[.int .i64 params, .int .i64 regs, .slice ba blocks.length bc] 37)).cell? ⟨w.heap.size, 2, none⟩ = some (.slice ba blocks.length bc) := cell_of_row _ _ 2 _ _ _ (heap_alloc_new w _)
  have HC := Lib.hid (And.intro (hrd.later blockR_lasts hb0) (And.intro hs hb0))
  clear hrd hs
  go_enter Try.func41, Try.ntmps41
  go_wp2_with fail
  generalize w.alloc (.cells #[.int .i64 params, .int .i64 regs, .slice ba blocks.length bc] 37) = W0 at HC ⊢
  clear hb0 hc2
  go_loopg [3, 9] blocks.length (fun F n i wr => ∃ k : Nat, k + F = blocks.length ∧ i = .int .i64 k ∧ n = .int .i64 (sumOf cntB (blocks.take k) : Nat) ∧ Below W0.heap.size W0 wr)
  case atStart => exact ⟨0, by omega, rfl, rfl, Below.refl _ _⟩
  case round =>
    obtain ⟨k, hk, rfl, rfl, hbr⟩ := hrel
    by_cases hlt : k < blocks.length
    · obtain ⟨b1, o1, phis, ins, jump, jon, nx, pa, pc, ia, ic, na, nc, rfl, hx, c0, c1, c2, c3, c4, hR⟩ := block_place (HC.out.1.later blockR_lasts hbr) hlt
      have hts : sumOf cntB (blocks.take (k + 1)) = sumOf cntB (blocks.take k) + (phis.length + ins.length) := by rw [take_succ_of hx, sumOf_snoc]; rfl
      have htl := sumOf_take cntB blocks (k + 1)
      have HT := Lib.hid hts
      have hrow := heap_alloc_new wr (.cells #[.slice pa phis.length pc, .slice ia ins.length ic, .int .i64 jump, .int .i64 jon, .slice na nx.length nc] 41)
      have hba : Below wr.heap.size wr (wr.alloc (.cells #[.slice pa phis.length pc, .slice ia ins.length ic, .int .i64 jump, .int .i64 jon, .slice na nx.length nc] 41)) := (Below.refl _ _).alloc (Nat.le_refl _) _
      have m0 : (wr.alloc (.cells #[.slice pa phis.length pc, .slice ia ins.length ic, .int .i64 jump, .int .i64 jon, .slice na nx.length nc] 41)).cell? ⟨wr.heap.size, 0, none⟩ = some (.slice pa phis.length pc) := cell_of_row _ _ 0 _ _ _ hrow
      have m1 : (wr.alloc (.cells #[.slice pa phis.length pc, .slice ia ins.length ic, .int .i64 jump, .int .i64 jon, .slice na nx.length nc] 41)).cell? ⟨wr.heap.size, 1, none⟩ = some (.slice ia ins.length ic) := cell_of_row _ _ 1 _ _ _ hrow
      have hb1 := hbr.trans (hba.mono hbr.size)
      have hsum : sumOf cntB (blocks.take k) + (phis.length + ins.length) ≤ 1048576 := by omega
      clear hx hts hrow hR hba htl
      generalize sumOf cntB (blocks.take k) = n0 at HT hsum ⊢
      go_wp2
      go_roundg (gk - 1)
      case measure => omega
      case rel => exact ⟨k + 1, by omega, by go_num, int_val (by have := HT.out; omega), hb1⟩
    · obtain rfl : k = blocks.length := by omega
      have HA := Lib.hid (show sumOf cntB (blocks.take blocks.length) = cntC ⟨params, regs, blocks⟩ by rw [List.take_length]; rfl)
      rw [HA.out]
      go_wp2
      go_ret
      exact ⟨rfl, HC.out.2.2.trans (hbr.mono HC.out.2.2.size)⟩

theorem unitB_stop {us : List CodeD} {k : Nat} {c : CodeD} (hx : us[k]? = some c) (hf : codeB us k c = false) : unitB us = false := by
  rw [unitB, allTo_false (i := k) (by rw [hx]; exact hf) (List.getElem?_eq_some_iff.1 hx).1, Bool.and_false, Bool.false_and]
theorem codes_next {us : List CodeD} {k : Nat} {c : CodeD} (h : allTo (fun k => (us[k]?).all (codeB us k)) k = true) (hx : us[k]? = some c) (hf : codeB us k c = true) : allTo (fun k => (us[k]?).all (codeB us k)) (k + 1) = true := by
  rw [allTo, h, hx]
  simpa using hf

set_option maxRecDepth 100000 in
set_option maxHeartbeats 2000000 in
theorem implUnitValid_any (us : List CodeD) (ua : Option Addr) (uc : Nat) (hsz : szS szCodeD us ≤ 1048576) (w : World) (hU : SliceRd 3 CodeR w ua us.length us) :
    Calls Try.prog 26 #[.agg #[.slice ua us.length uc]] w fun e w' => e = .returned (.bool (unitB us)) ∧ Below w.heap.size w w' := by
  have hb0 : Below w.heap.size w (w.alloc (.cells #[.slice ua us.length uc] 25)) := (Below.refl _ _).alloc (Nat.le_refl _) _
  have hc0 : (w.alloc (.cells #[.slice ua us.length uc] 25)).cell? ⟨w.heap.size, 0, none⟩ = some (.slice ua us.length uc) := cell_of_row _ _ 0 _ _ _ (heap_alloc_new w _)
  have hn := szS_len szCodeD us
  have hn2 : us.length ≤ 1048576 := by omega
  have hle : sumOf cntC us ≤ 1048576 := by have := sumOf_le cntC_le us; unfold szS at hsz; omega
  have HC := Lib.hid (And.intro (hU.later codeR_lasts hb0) (And.intro hsz (And.intro hb0 (heap_alloc_new w (.cells #[.slice ua us.length uc] 25)))))
  clear hU hsz hn
  go_enter Try.func26, Try.ntmps26
  go_wp2_with fail
  generalize w.alloc (.cells #[.slice ua us.length uc] 25) = W0 at HC hc0 hb0 ⊢
  cases hL : limB us with
  | false =>
    have HN := Lib.hid (show unitB us = false by rw [unitB, hL, Bool.false_and, Bool.false_and])
    refine (within_is hL _).mono ?_
    clear hL
    rintro e w1 ⟨rfl, rfl⟩
    go_wp2
    go_ret
    exact ⟨ret_bool HN.out.symm, hb0⟩
  | true =>
    have HL := Lib.hid hL
    refine (within_is hL _).mono ?_
    clear hL
    rintro e w1 ⟨rfl, rfl⟩
    go_wp2_with fail
    clear hb0 hc0
    go_loopg [3, 14] us.length (fun F n i wr => ∃ k : Nat, k + F = us.length ∧ i = .int .i64 k ∧ n = .int .i64 (sumOf cntC (us.take k) : Nat) ∧ Hid (Below w1.heap.size w1 wr ∧ allTo (fun k => (us[k]?).all (codeB us k)) k = true))
    case atStart => exact ⟨0, by omega, rfl, rfl, Lib.hid ⟨Below.refl _ _, rfl⟩⟩
    case round =>
      obtain ⟨k, hk, rfl, rfl, HK⟩ := hrel
      by_cases hlt : k < us.length
      · have hU := HC.out.1.later codeR_lasts HK.out.1
        obtain ⟨b1, o1, params, regs, blocks, ba, bc, rfl, hx, c0, c1, c2, hCR⟩ := code_place hU hlt
        have hz := szS_get (sz := szCodeD) HC.out.2.1 hx
        have hts : sumOf cntC (us.take (k + 1)) = sumOf cntC (us.take k) + cntC ⟨params, regs, blocks⟩ := by rw [take_succ_of hx, sumOf_snoc]
        have htl := sumOf_take cntC us (k + 1)
        have hrow := heap_alloc_new wr (.cells #[.int .i64 params, .int .i64 regs, .slice ba blocks.length bc] 37)
        have hba : Below wr.heap.size wr (wr.alloc (.cells #[.int .i64 params, .int .i64 regs, .slice ba blocks.length bc] 37)) := (Below.refl _ _).alloc (Nat.le_refl _) _
        have hb2 := HK.out.1.trans (hba.mono HK.out.1.size)
        have hblk := (hb2.block w.heap.size (Array.getElem?_eq_some_iff.1 HC.out.2.2.2).1).trans HC.out.2.2.2
        have u0 : (wr.alloc (.cells #[.int .i64 params, .int .i64 regs, .slice ba blocks.length bc] 37)).cell? ⟨w.heap.size, 0, none⟩ = some (.slice (some ⟨b1, o1, none⟩) us.length uc) := cell_of_row _ _ 0 _ _ _ hblk
        have hsum : sumOf cntC (us.take k) + cntC ⟨params, regs, blocks⟩ ≤ 1048576 := by omega
        have HT := Lib.hid (And.intro hts (And.intro (hU.later codeR_lasts hba) (And.intro hx (And.intro hrow (And.intro (codeR_lasts _ _ _ _ hba hCR) (And.intro hz.1 hb2))))))
        clear hts htl hU hx hrow hba hblk hCR hz hb2
        generalize sumOf cntC (us.take k) = n0 at HT hsum ⊢
        go_wp2_with fail
        generalize wr.alloc (.cells #[.int .i64 params, .int .i64 regs, .slice ba blocks.length bc] 37) = W5 at HT u0 ⊢
        refine (codeOk_any us _ uc k ⟨params, regs, blocks⟩ HT.out.2.2.1 HC.out.2.1 W5 HT.out.2.1).mono ?_
        rintro e w6 ⟨rfl, hb6⟩
        have hrow6 := (hb6.block _ (Array.getElem?_eq_some_iff.1 HT.out.2.2.2.1).1).trans HT.out.2.2.2.1
        have v0 : w6.cell? ⟨wr.heap.size, 0, none⟩ = some (.int .i64 params) := cell_of_row _ _ 0 _ _ _ hrow6
        have v1 : w6.cell? ⟨wr.heap.size, 1, none⟩ = some (.int .i64 regs) := cell_of_row _ _ 1 _ _ _ hrow6
        have v2 : w6.cell? ⟨wr.heap.size, 2, none⟩ = some (.slice ba blocks.length bc) := cell_of_row _ _ 2 _ _ _ hrow6
        have HB6 := Lib.hid (And.intro (HT.out.2.2.2.2.2.2.trans (hb6.mono HT.out.2.2.2.2.2.2.size)) (codeR_lasts _ _ _ _ hb6 HT.out.2.2.2.2.1))
        clear u0 hrow6 hb6 c0 c1 c2
        cases hco : codeB us k ⟨params, regs, blocks⟩ with
        | false =>
          have HN := Lib.hid (unitB_stop HT.out.2.2.1 hco)
          clear hco
          go_wp2
          go_ret
          exact ⟨ret_bool HN.out.symm, HC.out.2.2.1.trans (HB6.out.1.mono HC.out.2.2.1.size)⟩
        | true =>
          have HN := Lib.hid (codes_next HK.out.2 HT.out.2.2.1 hco)
          clear hco
          go_wp2_with fail
          refine (codeCount_any _ ⟨params, regs, blocks⟩ w6 HB6.out.2 HT.out.2.2.2.2.2.1).mono ?_
          rintro e w7 ⟨rfl, hb7⟩
          have HB7 := Lib.hid (HB6.out.1.trans (hb7.mono HB6.out.1.size))
          clear hb7 v0 v1 v2
          generalize cntC ⟨params, regs, blocks⟩ = n1 at HT hsum ⊢
          go_wp2
          go_roundg (gk - 1)
          case measure => omega
          case rel => exact ⟨k + 1, by omega, by go_num, int_val (by have := HT.out.1; omega), Lib.hid ⟨HB7.out, HN.out⟩⟩
      · obtain rfl : k = us.length := by omega
        have HA := Lib.hid (show unitB us = decide ((sumOf cntC (us.take us.length) : Int) ≤ 800) by rw [unitB, HL.out, HK.out.2, List.take_length]; rfl)
        have hle2 : sumOf cntC (us.take us.length) ≤ 1048576 := by rw [List.take_length]; exact hle
        generalize sumOf cntC (us.take us.length) = n0 at HA hle2 ⊢
        go_wp2
        go_ret
        exact ⟨ret_bool HA.out.symm, HC.out.2.2.1.trans (HK.out.1.mono HC.out.2.2.1.size)⟩

end Go.Proofs.Ytajnldkempeheaa
