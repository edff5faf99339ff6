/-
  The reference's test of a unit.
-/
import Derived.Test.YtajnldkempeheaaUvBlock
import Derived.Deep.DeepCutAuto

namespace Go.Proofs.Ytajnldkempeheaa
open Go.RowKit

/-- The limits of a code as the reference asks them. -/
theorem limsB_spec {params regs : Int} {blocks : List BlockD} :
    limsB ⟨params, regs, blocks⟩ = ((decide (0 ≤ params) && decide (params ≤ 3)) && (decide (params ≤ regs) && decide (regs ≤ 300)) && (decide (1 ≤ (blocks.length : Int)) && decide ((blocks.length : Int) ≤ 160))) := by
  have hm : min 3 regs = if 3 ≤ regs then 3 else regs := rfl
  rw [Bool.eq_iff_iff]
  simp only [limsB, hm, Bool.and_eq_true, decide_eq_true_eq]
  by_cases h : 3 ≤ regs
  · simp only [h, if_true]; omega
  · simp only [h, if_false]; omega
theorem sumOf_cons {α : Type} (sz : α → Nat) (x : α) (xs : List α) : sumOf sz (x :: xs) = sz x + sumOf sz xs := by simp [sumOf]
theorem sumOf_pre {α : Type} (sz : α → Nat) : ∀ (xs : List α) (k : Nat), sumOf sz (xs.take k) ≤ sumOf sz xs
  | [], k => by simp [sumOf]
  | x :: xs, 0 => by simp [sumOf]
  | x :: xs, k + 1 => by
    have := sumOf_pre sz xs k
    rw [List.take_succ_cons, sumOf_cons, sumOf_cons]; omega
/-- What has been counted up to block b of code k. -/
def cntTo (us : List CodeD) (k : Nat) (blocks : List BlockD) (b : Nat) : Nat := sumOf cntC (us.take k) + sumOf cntB (blocks.take b)
theorem cntTo_succ {us : List CodeD} {k b : Nat} {blocks : List BlockD} {x : BlockD} (hx : blocks[b]? = some x) : cntTo us k blocks (b + 1) = cntTo us k blocks b + (x.ins.length + x.phis.length) := by
  unfold cntTo
  rw [take_succ_of hx, sumOf_snoc, cntB]; omega
theorem cntTo_end {us : List CodeD} {k : Nat} {c : CodeD} (hk : us[k]? = some c) : cntTo us k c.blocks c.blocks.length = sumOf cntC (us.take (k + 1)) := by
  unfold cntTo
  rw [take_succ_of hk, sumOf_snoc, List.take_length]; rfl
theorem cntTo_le {us : List CodeD} {k : Nat} {c : CodeD} (hk : us[k]? = some c) (b : Nat) : cntTo us k c.blocks b ≤ sumOf cntC us := by
  have h1 := sumOf_pre cntB c.blocks b
  have h2 := sumOf_pre cntC us (k + 1)
  rw [take_succ_of hk, sumOf_snoc] at h2
  unfold cntTo
  have : cntC c = sumOf cntB c.blocks := rfl
  omega
theorem unitB_big {us : List CodeD} {n : Nat} (h : 800 < n) (hn : n ≤ sumOf cntC us) : unitB us = false := by
  have : decide ((sumOf cntC us : Int) ≤ 800) = false := decide_eq_false (by omega)
  rw [unitB, this, Bool.and_false]
theorem codeB_lims {us : List CodeD} {k : Nat} {c : CodeD} (h : limsB c = true) : codeB us k c = allTo (fun b => (c.blocks[b]?).all (blockB us k c b)) c.blocks.length := by rw [codeB, h, Bool.true_and]

set_option maxRecDepth 100000 in
set_option maxHeartbeats 4000000 in
theorem specUnitValid_any (us : List CodeD) (ua : Option Addr) (uc : Nat) (hsz : szS szCodeD us ≤ 1048576) (w : World) (hU : SliceRd 3 CodeR w ua us.length us) :
    Calls Try.prog 34 #[.agg #[.slice ua us.length uc]] w fun e w' => e = .returned (.bool (unitB us)) ∧ Below w.heap.size w w' := by
  have hb0 : Below w.heap.size w (w.alloc (.cells #[.slice ua us.length uc] 25)) := (Below.refl _ _).alloc (Nat.le_refl _) _
  have hc0 : (w.alloc (.cells #[.slice ua us.length uc] 25)).cell? ⟨w.heap.size, 0, none⟩ = some (.slice ua us.length uc) := cell_of_row _ _ 0 _ _ _ (heap_alloc_new w _)
  have hn := szS_len szCodeD us
  have hn2 : us.length ≤ 1048576 := by omega
  have hle : sumOf cntC us ≤ 1048576 := by have := sumOf_le cntC_le us; unfold szS at hsz; omega
  have HC := Lib.hid (And.intro (hU.later codeR_lasts hb0) (And.intro hsz (And.intro hb0 (heap_alloc_new w (.cells #[.slice ua us.length uc] 25)))))
  clear hU hsz hn
  go_enter Try.func34, Try.ntmps34
  go_wp2_with fail
  generalize w.alloc (.cells #[.slice ua us.length uc] 25) = W0 at HC hc0 hb0 ⊢
  cases hL : limB us with
  | false =>
    have HN := Lib.hid (show unitB us = false by rw [unitB, hL, Bool.false_and, Bool.false_and])
    refine (l1In_is hL _).mono ?_
    clear hL
    rintro e w1 ⟨rfl, rfl⟩
    go_wp2
    go_ret
    exact ⟨ret_bool HN.out.symm, hb0⟩
  | true =>
    have HL := Lib.hid hL
    refine (l1In_is hL _).mono ?_
    clear hL
    rintro e w1 ⟨rfl, rfl⟩
    go_wp2_with fail
    clear hb0 hc0
    go_loopg [3, 4] us.length (fun F n i wr => ∃ k : Nat, k + F = us.length ∧ i = .int .i64 k ∧ n = .int .i64 (sumOf cntC (us.take k) : Nat) ∧ Hid (Below w1.heap.size w1 wr ∧ allTo (fun k => (us[k]?).all (codeB us k)) k = true ∧ sumOf cntC (us.take k) ≤ 800))
    case atStart => exact ⟨0, by omega, rfl, rfl, Lib.hid ⟨Below.refl _ _, rfl, by simp [sumOf]⟩⟩
    case round =>
      obtain ⟨k, hk, rfl, rfl, HK⟩ := hrel
      have hblk := (HK.out.1.block w.heap.size (Array.getElem?_eq_some_iff.1 HC.out.2.2.2).1).trans HC.out.2.2.2
      have u0 : wr.cell? ⟨w.heap.size, 0, none⟩ = some (.slice ua us.length uc) := cell_of_row _ _ 0 _ _ _ hblk
      by_cases hlt : k < us.length
      · have hU := HC.out.1.later codeR_lasts HK.out.1
        obtain ⟨b1, o1, params, regs, blocks, ba, bc, rfl, hx, c0, c1, c2, hCR⟩ := code_place hU hlt
        have hz := szS_get (sz := szCodeD) HC.out.2.1 hx
        have hbl : blocks.length ≤ 1048576 := by have := hz.1; unfold szCodeD at this; exact Nat.le_trans (szS_len szBlockD blocks) this
        have hrd : SliceRd 5 BlockR wr ba blocks.length blocks := by
          obtain ⟨_, _, hcs, _, h⟩ := hCR
          simp only [List.cons.injEq, Value.slice.injEq, and_true, true_and] at hcs
          obtain ⟨rfl, rfl⟩ := hcs
          exact h
        have hrow := heap_alloc_new wr (.cells #[.int .i64 params, .int .i64 regs, .slice ba blocks.length bc] 37)
        have hba : Below wr.heap.size wr (wr.alloc (.cells #[.int .i64 params, .int .i64 regs, .slice ba blocks.length bc] 37)) := (Below.refl _ _).alloc (Nat.le_refl _) _
        have hlw : w.heap.size < wr.heap.size := (Array.getElem?_eq_some_iff.1 hblk).1
        have HT := Lib.hid (And.intro (hU.later codeR_lasts hba) (And.intro hx (And.intro hrow (And.intro (hrd.later blockR_lasts hba) (And.intro (HK.out.1.trans (hba.mono HK.out.1.size)) ((hba.block w.heap.size hlw).trans hblk))))))
        have v0 : (wr.alloc (.cells #[.int .i64 params, .int .i64 regs, .slice ba blocks.length bc] 37)).cell? ⟨wr.heap.size, 0, none⟩ = some (.int .i64 params) := cell_of_row _ _ 0 _ _ _ hrow
        have v1 : (wr.alloc (.cells #[.int .i64 params, .int .i64 regs, .slice ba blocks.length bc] 37)).cell? ⟨wr.heap.size, 1, none⟩ = some (.int .i64 regs) := cell_of_row _ _ 1 _ _ _ hrow
        have v2 : (wr.alloc (.cells #[.int .i64 params, .int .i64 regs, .slice ba blocks.length bc] 37)).cell? ⟨wr.heap.size, 2, none⟩ = some (.slice ba blocks.length bc) := cell_of_row _ _ 2 _ _ _ hrow
        have HU0 := Lib.hid u0
        clear hU hx hrow hba hCR hrd hblk
        go_upto_region 8 with fail
        clear c0 c1 c2 u0
        generalize wr.alloc (.cells #[.int .i64 params, .int .i64 regs, .slice ba blocks.length bc] 37) = W5 at HT v0 v1 v2 ⊢
        obtain ⟨n5, hn5⟩ : ∃ n5, wr.heap.size = n5 := ⟨_, rfl⟩
        rw [hn5] at HT v0 v1 v2 ⊢
        have hk8 : sumOf cntC (us.take k) ≤ 1048576 := by have := HK.out.2.2; omega
        go_cut [42] (fun v wx => v = .bool (!limsB ⟨params, regs, blocks⟩) ∧ wx = W5)
        case first =>
          cases h1 : (decide (0 ≤ params) && decide (params ≤ 3)) with
          | false =>
            have HI := Lib.hid (show limsB ⟨params, regs, blocks⟩ = false by rw [limsB_spec, h1]; rfl)
            go_wp2_with fail
            refine (l1In_is h1 _).mono ?_
            rintro e w2 ⟨rfl, rfl⟩
            go_wp2
            go_meet
            exact ⟨by rw [HI.out]; rfl, rfl⟩
          | true =>
            have HI := Lib.hid (show limsB ⟨params, regs, blocks⟩ = ((decide (params ≤ regs) && decide (regs ≤ 300)) && (decide (1 ≤ (blocks.length : Int)) && decide ((blocks.length : Int) ≤ 160))) by rw [limsB_spec, h1, Bool.true_and])
            have HW1 := Lib.hid (fun W => l1In_is h1 W)
            clear h1
            go_wp2_with fail
            refine (HW1.out _).mono ?_
            rintro e w2 ⟨rfl, rfl⟩
            cases h2 : (decide (params ≤ regs) && decide (regs ≤ 300)) with
            | false =>
              have HI2 := Lib.hid (show limsB ⟨params, regs, blocks⟩ = false by rw [HI.out, h2]; rfl)
              have HW2 := Lib.hid (fun W => l1In_is h2 W)
              clear h2
              go_wp2_with fail
              refine (HW2.out _).mono ?_
              rintro e w3 ⟨rfl, rfl⟩
              go_wp2
              go_meet
              exact ⟨by rw [HI2.out]; rfl, rfl⟩
            | true =>
              have HI2 := Lib.hid (show limsB ⟨params, regs, blocks⟩ = (decide (1 ≤ (blocks.length : Int)) && decide ((blocks.length : Int) ≤ 160)) by rw [HI.out, h2, Bool.true_and])
              have HW2 := Lib.hid (fun W => l1In_is h2 W)
              clear h2
              go_wp2_with fail
              refine (HW2.out _).mono ?_
              rintro e w3 ⟨rfl, rfl⟩
              go_wp2_with fail
              refine (l1In_is rfl _).mono ?_
              rintro e w4 ⟨rfl, rfl⟩
              go_wp2
              go_meet
              exact ⟨by rw [HI2.out, Bool.not_and], rfl⟩
        case rest =>
          obtain ⟨rfl, rfl⟩ := hcut
          cases hL2 : limsB ⟨params, regs, blocks⟩ with
          | false =>
            have HN := Lib.hid (unitB_stop HT.out.2.1 (show codeB us k ⟨params, regs, blocks⟩ = false by rw [codeB, hL2, Bool.false_and]))
            clear hL2
            go_wp2
            go_ret
            exact ⟨ret_bool HN.out.symm, HC.out.2.2.1.trans (HT.out.2.2.2.2.1.mono HC.out.2.2.1.size)⟩
          | true =>
            have HCB := Lib.hid (codeB_lims (us := us) (k := k) hL2)
            have hlim : (0 ≤ regs ∧ regs ≤ 300) ∧ blocks.length ≤ 160 := by
              rw [limsB_spec] at hL2
              simp at hL2
              omega
            clear hL2
            have hst : cntTo us k blocks 0 = sumOf cntC (us.take k) := by simp [cntTo, sumOf]
            have HK8 := Lib.hid (And.intro hst HK.out.2.2)
            rw [← hst]
            clear hst v0 v1 v2
            go_wp2_with fail
            obtain ⟨wa, hwa⟩ : ∃ wa, wa = wc := ⟨_, rfl⟩
            subst hwa
            go_loopg [3, 6] blocks.length (fun F n j wq => ∃ b : Nat, b + F = blocks.length ∧ j = .int .i64 b ∧ n = .int .i64 (cntTo us k blocks b : Nat) ∧ Hid (Below wa.heap.size wa wq ∧ allTo (fun b => (blocks[b]?).all (blockB us k ⟨params, regs, blocks⟩ b)) b = true ∧ cntTo us k blocks b ≤ 800))
            case atStart => exact ⟨0, by omega, rfl, rfl, Lib.hid ⟨Below.refl _ _, rfl, by rw [HK8.out.1]; exact HK8.out.2⟩⟩
            case round =>
              obtain ⟨b, hb, rfl, rfl, HQ⟩ := hrel
              have hrow := (HQ.out.1.block n5 (Array.getElem?_eq_some_iff.1 HT.out.2.2.1).1).trans HT.out.2.2.1
              have hub := (HQ.out.1.block w.heap.size (Array.getElem?_eq_some_iff.1 HT.out.2.2.2.2.2).1).trans HT.out.2.2.2.2.2
              have v2 : wr.cell? ⟨n5, 2, none⟩ = some (.slice ba blocks.length bc) := cell_of_row _ _ 2 _ _ _ hrow
              have HB := Lib.hid (And.intro hrow hub)
              have hU := HT.out.1.later codeR_lasts HQ.out.1
              have hcb := HQ.out.2.2
              by_cases hlt2 : b < blocks.length
              · obtain ⟨b2, o2, phis, ins, jump, jon, nx, pa, pc, ia, ic, na, nc, rfl, hxb, c0, c1, c2, c3, c4, hR⟩ := block_place (HT.out.2.2.2.1.later blockR_lasts HQ.out.1) hlt2
                have hcs := cntTo_succ (us := us) (k := k) hxb
                have hcl := cntTo_le HT.out.2.1 (b + 1)
                have hcs : cntTo us k blocks (b + 1) = cntTo us k blocks b + (ins.length + phis.length) := hcs
                have hcl : cntTo us k blocks (b + 1) ≤ sumOf cntC us := hcl
                have HX := Lib.hid (And.intro hxb (And.intro hcs hcl))
                have hs : cntTo us k blocks b + (ins.length + phis.length) ≤ 1048576 := by omega
                have HQ2 := Lib.hid HQ.out.2.1
                have HQ1 := Lib.hid HQ.out.1
                have HU1 := Lib.hid hU
                clear hxb hcs hcl hR hrow hub hU HQ c2 c3 c4
                generalize cntTo us k blocks b = cb at HX hs hcb ⊢
                go_wp2_with fail
                go_quiet (fail)
                have hbq := below_drewN (Below.refl wr.heap.size wr) nq
                have HD := Lib.hid (And.intro (HQ1.out.trans (hbq.mono HQ1.out.size)) (And.intro (HU1.out.later codeR_lasts hbq) (And.intro ((hbq.block n5 (Array.getElem?_eq_some_iff.1 HB.out.1).1).trans HB.out.1) ((hbq.block w.heap.size (Array.getElem?_eq_some_iff.1 HB.out.2).1).trans HB.out.2))))
                clear v2 c0 c1 hbq HB HQ1 HU1
                generalize wr.drewN nq = w5 at HD ⊢
                by_cases h8 : 800 < cb + (ins.length + phis.length)
                · have d8 : decide ((800 : Int) < (cb : Int) + ins.length + phis.length) = true := decide_eq_true (by omega)
                  have HN := Lib.hid (unitB_big (us := us) (n := cntTo us k blocks (b + 1)) (by have := HX.out.2.1; omega) HX.out.2.2)
                  clear h8
                  go_wp2
                  go_ret
                  exact ⟨ret_bool HN.out.symm, HC.out.2.2.1.trans ((HT.out.2.2.2.2.1.trans (HD.out.1.mono HT.out.2.2.2.2.1.size)).mono HC.out.2.2.1.size)⟩
                · have d8 : decide ((800 : Int) < (cb : Int) + ins.length + phis.length) = false := decide_eq_false (by omega)
                  have u0 : w5.cell? ⟨w.heap.size, 0, none⟩ = some (.slice (some ⟨b1, o1, none⟩) us.length uc) := cell_of_row _ _ 0 _ _ _ HD.out.2.2.2
                  have H8 := Lib.hid h8
                  clear h8
                  go_wp2_with fail
                  refine (l7Block_any us _ uc k ⟨params, regs, blocks⟩ HT.out.2.1 HC.out.2.1 hlim.1 b ⟨phis, ins, jump, jon, nx⟩ HX.out.1 w5 HD.out.2.1).mono ?_
                  rintro e w6 ⟨rfl, hb6⟩
                  have HD6 := Lib.hid (HD.out.1.trans (hb6.mono HD.out.1.size))
                  clear u0 hb6
                  cases hbb : blockB us k ⟨params, regs, blocks⟩ b ⟨phis, ins, jump, jon, nx⟩ with
                  | false =>
                    have HN := Lib.hid (unitB_stop HT.out.2.1 (codeB_stop HCB.out HX.out.1 hbb))
                    clear hbb
                    go_wp2
                    go_ret
                    exact ⟨ret_bool HN.out.symm, HC.out.2.2.1.trans ((HT.out.2.2.2.2.1.trans (HD6.out.mono HT.out.2.2.2.2.1.size)).mono HC.out.2.2.1.size)⟩
                  | true =>
                    have HN := Lib.hid (allTo_next HQ2.out HX.out.1 hbb)
                    clear hbb
                    go_wp2
                    go_roundg (gk - 1)
                    case measure => omega
                    case rel => exact ⟨b + 1, by omega, by go_num, int_val (by have := HX.out.2.1; omega), Lib.hid ⟨HD6.out, HN.out, by have := HX.out.2.1; have := H8.out; omega⟩⟩
              · obtain rfl : b = blocks.length := by omega
                have HE := Lib.hid (cntTo_end HT.out.2.1)
                have HN := Lib.hid (codes_next HK.out.2.1 HT.out.2.1 (by rw [HCB.out]; exact HQ.out.2.1))
                have HE2 : Hid (cntTo us k blocks blocks.length = sumOf cntC (us.take (k + 1))) := Lib.hid HE.out
                clear hrow hub
                go_wp2
                go_roundg (us.length - (k + 1))
                case measure => omega
                case rel => exact ⟨k + 1, by omega, by go_num, by rw [HE2.out], Lib.hid ⟨HT.out.2.2.2.2.1.trans (HQ.out.1.mono HT.out.2.2.2.2.1.size), HN.out, by rw [← HE2.out]; exact HQ.out.2.2⟩⟩
      · obtain rfl : k = us.length := by omega
        have HA := Lib.hid (show unitB us = true by
          have h := HK.out.2.2
          rw [List.take_length] at h
          have : decide ((sumOf cntC us : Int) ≤ 800) = true := decide_eq_true (by omega)
          rw [unitB, HL.out, HK.out.2.1, this]; rfl)
        go_wp2
        go_ret
        exact ⟨ret_bool HA.out.symm, HC.out.2.2.1.trans (HK.out.1.mono HC.out.2.2.1.size)⟩

end Go.Proofs.Ytajnldkempeheaa
