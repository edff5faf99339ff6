/-
  The reference's test of a block.
-/
import Derived.Test.YtajnldkempeheaaUvSpec
import Derived.Deep.DeepCutAuto
import Derived.Deep.CutBlock
import Derived.Deep.RegionHeld3

namespace Go.Proofs.Ytajnldkempeheaa
open Go.RowKit

theorem any_next {α : Type} {p : α → Bool} {xs : List α} {i : Nat} {x : α} (h : (xs.take i).any p = false) (hx : xs[i]? = some x) (hf : p x = false) : (xs.take (i + 1)).any p = false := by
  rw [take_succ_of hx, List.any_append, h]
  simpa using hf
theorem any_stop {α : Type} {p : α → Bool} {xs : List α} {i : Nat} {x : α} (hx : xs[i]? = some x) (hf : p x = true) : xs.any p = true := List.any_eq_true.2 ⟨x, List.mem_of_getElem? hx, hf⟩

set_option maxRecDepth 100000 in
set_option maxHeartbeats 8000000 in
set_option linter.unusedSimpArgs false in
theorem l7Block_any (us : List CodeD) (ua : Option Addr) (uc k : Nat) (c : CodeD) (hk : us[k]? = some c) (hsz : szS szCodeD us ≤ 1048576) (hlim : 0 ≤ c.regs ∧ c.regs ≤ 300) (b : Nat) (x : BlockD) (hx : c.blocks[b]? = some x) (w : World) (hU : SliceRd 3 CodeR w ua us.length us) :
    Calls Try.prog 52 #[.agg #[.slice ua us.length uc], .int .i64 k, .int .i64 b] w fun e w' => e = .returned (.bool (blockB us k c b x)) ∧ Below w.heap.size w w' := by
  have hkl : k < us.length := (List.getElem?_eq_some_iff.1 hk).1
  obtain ⟨ub, uo, params, regs, blocks, ba, bc, rfl, hk2, c0, c1, c2, hCR⟩ := code_place hU hkl
  rw [hk] at hk2
  cases hk2
  have hlim : 0 ≤ regs ∧ regs ≤ 300 := hlim
  have hx : blocks[b]? = some x := hx
  have hzc := szS_get hsz hk
  have hn := hzc.2
  have hbl : blocks.length ≤ 1048576 := by have := hzc.1; unfold szCodeD at this; exact Nat.le_trans (szS_len _ _) this
  have hrd : SliceRd 5 BlockR w ba blocks.length blocks := by
    obtain ⟨_, _, hcs, _, h⟩ := hCR
    simp only [List.cons.injEq, Value.slice.injEq, and_true, true_and] at hcs
    obtain ⟨rfl, rfl⟩ := hcs
    exact h
  have hblt : b < blocks.length := (List.getElem?_eq_some_iff.1 hx).1
  obtain ⟨b1, o1, phis, ins, jump, jon, nx, pa, pc, ia, ic, na, nc, rfl, hx2, g0, g1, g2, g3, g4, hR⟩ := block_place hrd hblt
  rw [hx] at hx2
  cases hx2
  have hz := szS_get (sz := szBlockD) hzc.1 hx
  have hzb := szBlock_parts hz.1
  have hnl := hzb.2.2
  have hil : ins.length ≤ 1048576 := Nat.le_trans (szS_len szInsD ins) hzb.2.1
  have hpl : phis.length ≤ 1048576 := Nat.le_trans (szS_len szPhiD phis) hzb.1
  have HF := Lib.hid (three_blocks w (.cells #[.slice (some ⟨ub, uo, none⟩) us.length uc] 25) (.cells #[.int .i64 params, .int .i64 regs, .slice (some ⟨b1, o1, none⟩) blocks.length bc] 37) (.cells #[.slice pa phis.length pc, .slice ia ins.length ic, .int .i64 jump, .int .i64 jon, .slice na nx.length nc] 41))
  have hb1 : Below w.heap.size w (w.alloc (.cells #[.slice (some ⟨ub, uo, none⟩) us.length uc] 25)) := (Below.refl _ _).alloc (Nat.le_refl _) _
  have hb2 : Below w.heap.size w ((w.alloc (.cells #[.slice (some ⟨ub, uo, none⟩) us.length uc] 25)).alloc (.cells #[.int .i64 params, .int .i64 regs, .slice (some ⟨b1, o1, none⟩) blocks.length bc] 37)) := ((Below.refl _ _).alloc (Nat.le_refl _) _).alloc (by simp) _
  have d0 := cell_later hb1 c0
  have d1 := cell_later hb1 c1
  have d2 := cell_later hb1 c2
  have e0 := cell_later hb2 g0
  have e1 := cell_later hb2 g1
  have e2 := cell_later hb2 g2
  have e3 := cell_later hb2 g3
  have e4 := cell_later hb2 g4
  obtain ⟨_, _, _, _, _, _, hcs, hph, hins, ⟨_, hnx⟩⟩ := hR
  simp only [List.cons.injEq, Value.slice.injEq, and_true, true_and] at hcs
  obtain ⟨⟨rfl, rfl⟩, ⟨rfl, rfl⟩, rfl, rfl⟩ := hcs
  have HC := Lib.hid (And.intro hU (And.intro hk (And.intro hCR (And.intro hzb hzc.1))))
  have HR := Lib.hid (And.intro hph.2 (And.intro hins.2 hnx))
  clear hU hk hsz hzc hCR hrd c0 c1 c2 g0 g1 g2 g3 g4 hb1 hb2 hz hzb hph hins hnx hx
  go_enter Try.func52, Try.ntmps52
  go_upto_region 3 with fail
  clear d0 d1 d2 e0 e1 e2 e3 e4
  generalize (((w.alloc (.cells #[.slice (some ⟨ub, uo, none⟩) us.length uc] 25)).alloc (.cells #[.int .i64 params, .int .i64 regs, .slice (some ⟨b1, o1, none⟩) blocks.length bc] 37)).alloc (.cells #[.slice pa phis.length pc, .slice ia ins.length ic, .int .i64 jump, .int .i64 jon, .slice na nx.length nc] 41)) = W3 at HF ⊢
  have hf := HF.out
  have m0 : W3.cell? ⟨w.heap.size + 1 + 1, 0, none⟩ = some (.slice pa phis.length pc) := cell_of_row _ _ 0 _ _ _ hf.1.3
  have m1 : W3.cell? ⟨w.heap.size + 1 + 1, 1, none⟩ = some (.slice ia ins.length ic) := cell_of_row _ _ 1 _ _ _ hf.1.3
  have m2 : W3.cell? ⟨w.heap.size + 1 + 1, 2, none⟩ = some (.int .i64 jump) := cell_of_row _ _ 2 _ _ _ hf.1.3
  have m3 : W3.cell? ⟨w.heap.size + 1 + 1, 3, none⟩ = some (.int .i64 jon) := cell_of_row _ _ 3 _ _ _ hf.1.3
  have m4 : W3.cell? ⟨w.heap.size + 1 + 1, 4, none⟩ = some (.slice na nx.length nc) := cell_of_row _ _ 4 _ _ _ hf.1.3
  have r1 : W3.cell? ⟨w.heap.size + 1, 1, none⟩ = some (.int .i64 regs) := cell_of_row _ _ 1 _ _ _ hf.1.2
  have r2 : W3.cell? ⟨w.heap.size + 1, 2, none⟩ = some (.slice (some ⟨b1, o1, none⟩) blocks.length bc) := cell_of_row _ _ 2 _ _ _ hf.1.2
  clear hf
  have HJ := Lib.hid (show jumpB regs ⟨phis, ins, jump, jon, nx⟩ = (!((nx.length : Int) != nextN jump) && (if usesJ jump then inR regs jon else !(jon != 0))) from rfl)
  have HBk := Lib.hid (show blockB us k ⟨params, regs, blocks⟩ b ⟨phis, ins, jump, jon, nx⟩ = (jumpB regs ⟨phis, ins, jump, jon, nx⟩ && !nx.any (fun y => !inB blocks.length y) && !ins.any (fun i => !insB us k regs i) && phis.all (phiB regs b (preds (nxs ⟨params, regs, blocks⟩) (b : Int)).length)) from rfl)
  go_upto_block 0 with fail
  go_cut [9] (fun t wx => wx = W3 ∧ ∃ want : Int, t = .int .i64 want ∧ want = nextN jump ∧ Hid ((jump = 1 ∧ jon = 0) ∨ jump = 2 ∨ jump = 3))
  case first =>
    by_cases h1 : jump = 1
    · subst h1
      cases ho : (jon != 0) with
      | true =>
        have HN := Lib.hid (show blockB us k ⟨params, regs, blocks⟩ b ⟨phis, ins, 1, jon, nx⟩ = false by
          rw [HBk.out, HJ.out, if_neg (by decide), ho]; simp)
        go_wp2
        go_ret
        exact ⟨ret_bool HN.out.symm, HF.out.2.2⟩
      | false =>
        have HN := Lib.hid (show (1 = (1 : Int) ∧ jon = 0) ∨ (1 : Int) = 2 ∨ (1 : Int) = 3 from .inl ⟨rfl, by simpa using ho⟩)
        go_wp2
        go_meet
        exact ⟨rfl, _, rfl, rfl, HN⟩
    · have e1 : (jump == 1) = false := by simpa using h1
      by_cases h2 : jump = 2
      · subst h2
        clear e1 h1
        go_wp2
        go_meet
        exact ⟨rfl, _, rfl, rfl, Lib.hid (by simp)⟩
      · have e2 : (jump == 2) = false := by simpa using h2
        by_cases h3 : jump = 3
        · subst h3
          clear e1 h1 e2 h2
          go_wp2
          go_meet
          exact ⟨rfl, _, rfl, rfl, Lib.hid (by simp)⟩
        · have e3 : (jump == 3) = false := by simpa using h3
          have HN := Lib.hid (show blockB us k ⟨params, regs, blocks⟩ b ⟨phis, ins, jump, jon, nx⟩ = false by
            have : nextN jump = -1 := by unfold nextN; rw [if_neg h1, if_neg h2, if_neg h3]
            have h4 : ((nx.length : Int) != nextN jump) = true := by rw [this]; simp
            rw [HBk.out, HJ.out, h4]; simp)
          clear h1 h2 h3
          go_wp2
          go_ret
          exact ⟨ret_bool HN.out.symm, HF.out.2.2⟩
  case rest =>
    obtain ⟨rfl, want, rfl, hwant, HJ1⟩ := hcut
    have HW := Lib.hid hwant
    clear hwant
    go_upto_region 13 with fail
    go_cut [53] (fun v wx => v = .bool (!jumpB regs ⟨phis, ins, jump, jon, nx⟩) ∧ wx = wc)
    case first =>
      cases hv1 : ((nx.length : Int) != want) with
      | true =>
        have HJ2 := Lib.hid (show jumpB regs ⟨phis, ins, jump, jon, nx⟩ = false by rw [HJ.out, ← HW.out, hv1]; rfl)
        go_wp2
        go_meet
        exact ⟨by rw [HJ2.out]; rfl, rfl⟩
      | false =>
        have HJ2 := Lib.hid (show jumpB regs ⟨phis, ins, jump, jon, nx⟩ = (if usesJ jump then inR regs jon else !(jon != 0)) by rw [HJ.out, ← HW.out, hv1]; rfl)
        cases hj1 : (jump != 1) with
        | false =>
          have HJ3 := Lib.hid (show jumpB regs ⟨phis, ins, jump, jon, nx⟩ = true by
            have hj : jump = 1 := by simpa using hj1
            have hon : jon = 0 := by
              rcases HJ1.out with h | h | h
              · exact h.2
              · omega
              · omega
            rw [HJ2.out, hj, hon, if_neg (by decide)]; rfl)
          go_wp2
          go_meet
          exact ⟨by rw [HJ3.out]; rfl, rfl⟩
        | true =>
          have HJ3 := Lib.hid (show jumpB regs ⟨phis, ins, jump, jon, nx⟩ = inR regs jon by
            have hj : jump ≠ 1 := by simpa using hj1
            have hu : usesJ jump = true := by
              rcases HJ1.out with h | h | h
              · omega
              · rw [h]; rfl
              · rw [h]; rfl
            rw [HJ2.out, hu, if_pos rfl])
          go_wp2_with fail
          refine (l1In_is (show (decide ((0 : Int) ≤ jon) && decide (jon ≤ regs - 1)) = inR regs jon from rfl) _).mono ?_
          rintro e w4 ⟨rfl, rfl⟩
          go_wp2
          go_meet
          exact ⟨by rw [HJ3.out], rfl⟩
    case rest =>
      obtain ⟨rfl, rfl⟩ := hcut
      cases hj : jumpB regs ⟨phis, ins, jump, jon, nx⟩ with
      | false =>
        have HN := Lib.hid (show blockB us k ⟨params, regs, blocks⟩ b ⟨phis, ins, jump, jon, nx⟩ = false by rw [HBk.out, hj]; rfl)
        clear hj
        go_wp2
        go_ret
        exact ⟨ret_bool HN.out.symm, HF.out.2.2⟩
      | true =>
        have HB1 := Lib.hid (show blockB us k ⟨params, regs, blocks⟩ b ⟨phis, ins, jump, jon, nx⟩ = (!nx.any (fun y => !inB blocks.length y) && !ins.any (fun i => !insB us k regs i) && phis.all (phiB regs b (preds (nxs ⟨params, regs, blocks⟩) (b : Int)).length)) by rw [HBk.out, hj, Bool.true_and])
        clear hj
        have HM := Lib.hid (And.intro m0 (And.intro m1 (And.intro m4 r2)))
        clear m0 m1 m2 m3 m4 r1 r2 HJ HBk HW HJ1
        go_wp2_with fail
        go_loopg [10] nx.length (fun F j wr => ∃ i : Nat, i + F = nx.length ∧ j = .int .i64 i ∧ Hid (Below wc.heap.size wc wr ∧ (nx.take i).any (fun y => !inB blocks.length y) = false))
        case atStart => exact ⟨0, by omega, rfl, Lib.hid ⟨Below.refl _ _, rfl⟩⟩
        case round =>
          obtain ⟨i, hi, rfl, HK⟩ := hrel
          have m4 := cell_later HK.out.1 HM.out.2.2.1
          have r2 := cell_later HK.out.1 HM.out.2.2.2
          by_cases hlt : i < nx.length
          · obtain ⟨b3, o3, y, rfl, hy, hc⟩ := (HR.out.2.2.later (HF.out.2.2.trans (HK.out.1.mono HF.out.2.2.size))).place hlt
            have HY := Lib.hid hy
            clear hy
            cases hin : inB blocks.length y with
            | false =>
              have HN := Lib.hid (show blockB us k ⟨params, regs, blocks⟩ b ⟨phis, ins, jump, jon, nx⟩ = false by rw [HB1.out, any_stop HY.out (by rw [hin]; rfl)]; rfl)
              have HQ := Lib.hid (fun W => l1In_is (show (decide (1 ≤ y) && decide (y ≤ (blocks.length : Int) - 1)) = false from hin) W)
              clear hin
              go_wp2_with fail
              go_quiet (exact Calls.quiet_of_same (HQ.out _))
              go_wp2
              go_ret
              exact ⟨ret_bool HN.out.symm, below_drewN (HF.out.2.2.trans (HK.out.1.mono HF.out.2.2.size)) _⟩
            | true =>
              have HN := Lib.hid (any_next HK.out.2 HY.out (by rw [hin]; rfl))
              have HQ := Lib.hid (fun W => l1In_is (show (decide (1 ≤ y) && decide (y ≤ (blocks.length : Int) - 1)) = true from hin) W)
              clear hin
              go_wp2_with fail
              go_quiet (exact Calls.quiet_of_same (HQ.out _))
              go_wp2
              go_roundg (gk - 1)
              case measure => omega
              case rel => exact ⟨i + 1, by omega, by go_num, Lib.hid ⟨below_drewN HK.out.1 _, HN.out⟩⟩
          · obtain rfl : i = nx.length := by omega
            have HB2 := Lib.hid (show blockB us k ⟨params, regs, blocks⟩ b ⟨phis, ins, jump, jon, nx⟩ = (!ins.any (fun i => !insB us k regs i) && phis.all (phiB regs b (preds (nxs ⟨params, regs, blocks⟩) (b : Int)).length)) by
              have := HK.out.2
              rw [List.take_length] at this
              rw [HB1.out, this]; rfl)
            have HB4 := Lib.hid (HF.out.2.2.trans (HK.out.1.mono HF.out.2.2.size))
            have HF4 := Lib.hid (HF.out.1.later HK.out.1 (by have := HF.out.2.1; omega))
            have HSZ := Lib.hid (show w.heap.size + 3 ≤ wr.heap.size by have := HF.out.2.1; have := HK.out.1.size; omega)
            go_wp2_with fail
            clear m4 r2 HK
            have hsz4 : w.heap.size + 3 ≤ wr.heap.size := HSZ.out
            obtain ⟨wa, rfl⟩ : ∃ wa, wa = wr := ⟨_, rfl⟩
            go_loopg [11] ins.length (fun F j wq => ∃ i : Nat, i + F = ins.length ∧ j = .int .i64 i ∧ Hid (Below wa.heap.size wa wq ∧ (ins.take i).any (fun i => !insB us k regs i) = false))
            case atStart => exact ⟨0, by omega, rfl, Lib.hid ⟨Below.refl _ _, rfl⟩⟩
            case round =>
              obtain ⟨i, hi, rfl, HK⟩ := hrel
              have hbq := HB4.out.trans (HK.out.1.mono HB4.out.size)
              have hFq := HF4.out.later HK.out.1 (by omega)
              have u0 : wr.cell? ⟨w.heap.size, 0, none⟩ = some (.slice (some ⟨ub, uo, none⟩) us.length uc) := cell_of_row _ _ 0 _ _ _ hFq.1
              have m1 : wr.cell? ⟨w.heap.size + 1 + 1, 1, none⟩ = some (.slice ia ins.length ic) := cell_of_row _ _ 1 _ _ _ hFq.3
              by_cases hlt : i < ins.length
              · obtain ⟨b3, o3, op, ft, args, num, aa, ac, rfl, hy, p0, p1, p2, p3, hRy⟩ := ins_place (HR.out.2.1.later insR_lasts hbq) hlt
                have hal : args.length ≤ 1048576 := (szS_get (sz := szInsD) HC.out.2.2.2.1.2.1 hy).1
                have hq : ∀ q, Calls Try.prog 73 #[.agg #[.slice (some ⟨ub, uo, none⟩) us.length uc], .int .i64 k, .agg #[.int .i64 op, .int .i64 ft, .slice aa args.length ac, .int .i64 num]] (wr.drewN q) fun e w' => e = .returned (.bool (insB us k regs ⟨op, ft, args, num⟩)) ∧ Below (wr.drewN q).heap.size (wr.drewN q) w' := fun q =>
                  l7Ins_any us (some ⟨ub, uo, none⟩) uc k ⟨params, regs, blocks⟩ HC.out.2.1 hlim hn _ ⟨op, ft, args, num⟩ hal (wr.drewN q) (HC.out.1.later codeR_lasts (below_drewN hbq q)) (insR_lasts _ _ _ _ (below_drewN (Below.refl _ _) q) hRy)
                have HY := Lib.hid (And.intro hy (And.intro hbq hFq))
                clear hy hbq hFq hRy
                cases hib : insB us k regs ⟨op, ft, args, num⟩ with
                | false =>
                  simp only [hib] at hq
                  have HQ := Lib.hid hq
                  have HN := Lib.hid (show blockB us k ⟨params, regs, blocks⟩ b ⟨phis, ins, jump, jon, nx⟩ = false by rw [HB2.out, any_stop HY.out.1 (by rw [hib]; rfl)]; rfl)
                  clear hib hq
                  go_wp2_with fail
                  go_region_law (go_simp; go_at_call 73; refine (HQ.out _).mono ?_; rintro e w7 ⟨rfl, hb7⟩; (have HB7 := Lib.hid (show Below wr.heap.size wr w7 from ⟨hb7.os, hb7.tape, hb7.output, hb7.size, hb7.block⟩)); clear hb7)
                  all_goals
                    clear HQ
                    go_wp2
                    go_ret
                    exact ⟨ret_bool HN.out.symm, HY.out.2.1.trans (HB7.out.mono HY.out.2.1.size)⟩
                | true =>
                  simp only [hib] at hq
                  have HQ := Lib.hid hq
                  have HN := Lib.hid (any_next HK.out.2 HY.out.1 (by rw [hib]; rfl))
                  clear hib hq
                  go_wp2_with fail
                  go_region_law (go_simp; go_at_call 73; refine (HQ.out _).mono ?_; rintro e w7 ⟨rfl, hb7⟩; (have HB7 := Lib.hid (show Below wr.heap.size wr w7 from ⟨hb7.os, hb7.tape, hb7.output, hb7.size, hb7.block⟩)); clear hb7)
                  all_goals
                    clear HQ
                    go_wp2
                    go_roundg (gk - 1)
                    case measure => omega
                    case rel => exact ⟨i + 1, by omega, by go_num, Lib.hid ⟨HK.out.1.trans (HB7.out.mono HK.out.1.size), HN.out⟩⟩
              · obtain rfl : i = ins.length := by omega
                have HB3 := Lib.hid (show blockB us k ⟨params, regs, blocks⟩ b ⟨phis, ins, jump, jon, nx⟩ = phis.all (phiB regs b (preds (nxs ⟨params, regs, blocks⟩) (b : Int)).length) by
                  have := HK.out.2
                  rw [List.take_length] at this
                  rw [HB2.out, this]; rfl)
                have k0 : wr.cell? ⟨w.heap.size + 1, 0, none⟩ = some (.int .i64 params) := cell_of_row _ _ 0 _ _ _ hFq.2
                have k1 : wr.cell? ⟨w.heap.size + 1, 1, none⟩ = some (.int .i64 regs) := cell_of_row _ _ 1 _ _ _ hFq.2
                have k2 : wr.cell? ⟨w.heap.size + 1, 2, none⟩ = some (.slice (some ⟨b1, o1, none⟩) blocks.length bc) := cell_of_row _ _ 2 _ _ _ hFq.2
                have hP : Calls Try.prog 38 #[.agg #[.int .i64 params, .int .i64 regs, .slice (some ⟨b1, o1, none⟩) blocks.length bc], .int .i64 (b : Int)] wr fun e w' => RetInts wr (preds (nxs ⟨params, regs, blocks⟩) (b : Int)) (preds (nxs ⟨params, regs, blocks⟩) (b : Int)).length e w' := by
                  obtain ⟨ba', bc', hcs, hg⟩ := gr_of_code (codeR_lasts _ _ _ _ hbq HC.out.2.2.1) HC.out.2.2.2.2
                  simp only [List.cons.injEq, Value.slice.injEq, and_true, true_and] at hcs
                  obtain ⟨rfl, hnl, rfl⟩ := hcs
                  have hnl : blocks.length = (nxs ⟨params, regs, blocks⟩).length := hnl
                  have := l7Preds_any params regs _ bc _ (b : Int) wr hg
                  rw [← hnl] at this
                  exact this
                have hprl : (preds (nxs ⟨params, regs, blocks⟩) (b : Int)).length ≤ blocks.length := by
                  have := preds_len (nxs ⟨params, regs, blocks⟩) (b : Int)
                  simpa [nxs] using this
                have HE := Lib.hid (And.intro hbq hFq)
                have hsz5 : w.heap.size + 3 ≤ wr.heap.size := by have := HK.out.1.size; omega
                clear hbq hFq u0
                go_wp2_with fail
                refine hP.mono ?_
                clear hP k0 k1 k2 m1
                generalize preds (nxs ⟨params, regs, blocks⟩) (b : Int) = ps at HB3 hprl ⊢
                rintro e w8 ⟨a8, c8, rfl, _, hb8⟩
                have HE8 := Lib.hid (And.intro (HE.out.1.trans (hb8.mono HE.out.1.size)) (HE.out.2.later hb8 hsz5))
                have hsz8 : w.heap.size + 3 ≤ w8.heap.size := by have := hb8.size; omega
                clear hb8 HE hsz5 hsz4
                go_wp2_with fail
                go_loopg [13] phis.length (fun F j wq => ∃ i : Nat, i + F = phis.length ∧ j = .int .i64 i ∧ Hid (Below w8.heap.size w8 wq ∧ (phis.take i).all (phiB regs b ps.length) = true))
                case atStart => exact ⟨0, by omega, rfl, Lib.hid ⟨Below.refl _ _, rfl⟩⟩
                case round =>
                  obtain ⟨i, hi, rfl, HK⟩ := hrel
                  have hbq := HE8.out.1.trans (HK.out.1.mono HE8.out.1.size)
                  have hFq := HE8.out.2.later HK.out.1 hsz8
                  have k0 : wr.cell? ⟨w.heap.size + 1, 0, none⟩ = some (.int .i64 params) := cell_of_row _ _ 0 _ _ _ hFq.2
                  have k1 : wr.cell? ⟨w.heap.size + 1, 1, none⟩ = some (.int .i64 regs) := cell_of_row _ _ 1 _ _ _ hFq.2
                  have k2 : wr.cell? ⟨w.heap.size + 1, 2, none⟩ = some (.slice (some ⟨b1, o1, none⟩) blocks.length bc) := cell_of_row _ _ 2 _ _ _ hFq.2
                  have m0 : wr.cell? ⟨w.heap.size + 1 + 1, 0, none⟩ = some (.slice pa phis.length pc) := cell_of_row _ _ 0 _ _ _ hFq.3
                  by_cases hlt : i < phis.length
                  · obtain ⟨b3, o3, ft, args, aa, ac, rfl, hy, p0, p1, hRy⟩ := phi_place (HR.out.1.later phiR_lasts hbq) hlt
                    have hal : args.length ≤ 1048576 := (szS_get (sz := szPhiD) HC.out.2.2.2.1.1 hy).1
                    obtain ⟨_, _, hcs, ⟨_, hap⟩⟩ := hRy
                    simp only [List.cons.injEq, Value.slice.injEq, and_true, true_and] at hcs
                    obtain ⟨rfl, rfl⟩ := hcs
                    have HP := Lib.hid (show phiB regs b ps.length ⟨ft, args⟩ = (!((b : Int) == 0) && inR regs ft && !((args.length : Int) != (ps.length : Int)) && !args.any (fun r => !inR regs r)) from rfl)
                    have hq : ∀ W, Below wr.heap.size wr W → Calls Try.prog 74 #[.agg #[.int .i64 params, .int .i64 regs, .slice (some ⟨b1, o1, none⟩) blocks.length bc], .slice aa args.length ac] W fun e w' => e = .returned (.bool (!args.any (fun r => !inR regs r))) ∧ Below W.heap.size W w' := fun W hW =>
                      l7Regs_any params regs _ _ bc hlim aa ac args W (hap.later hW) hal
                    have HY := Lib.hid (And.intro hy hbq)
                    clear hy hbq hFq hap
                    cases hb0 : ((b : Int) == 0) with
                    | true =>
                      have HN := Lib.hid (show blockB us k ⟨params, regs, blocks⟩ b ⟨phis, ins, jump, jon, nx⟩ = false by rw [HB3.out]; exact all_stop HY.out.1 (by rw [HP.out, hb0]; rfl))
                      clear hq
                      go_wp2_with fail
                      go_quiet (fail)
                      go_wp2
                      go_ret
                      exact ⟨ret_bool HN.out.symm, below_drewN HY.out.2 _⟩
                    | false =>
                      cases hle : ((args.length : Int) != (ps.length : Int)) with
                      | true =>
                        have HN := Lib.hid (show blockB us k ⟨params, regs, blocks⟩ b ⟨phis, ins, jump, jon, nx⟩ = false by rw [HB3.out]; exact all_stop HY.out.1 (by rw [HP.out, hle]; simp))
                        clear hq
                        go_wp2_with fail
                        go_quiet (fail)
                        go_wp2
                        go_ret
                        exact ⟨ret_bool HN.out.symm, below_drewN HY.out.2 _⟩
                      | false =>
                        cases hva : args.any (fun r => !inR regs r) with
                        | true =>
                          have HN := Lib.hid (show blockB us k ⟨params, regs, blocks⟩ b ⟨phis, ins, jump, jon, nx⟩ = false by rw [HB3.out]; exact all_stop HY.out.1 (by rw [HP.out, hva]; simp))
                          simp only [hva, Bool.not_true] at hq
                          have HQ := Lib.hid hq
                          clear hq hva
                          go_wp2_with fail
                          refine wp_region_held_drew (S := (fun W => W.cell? ⟨w.heap.size + 1, 0, none⟩ = some (.int .i64 params) ∧ W.cell? ⟨w.heap.size + 1, 1, none⟩ = some (.int .i64 regs) ∧ W.cell? ⟨w.heap.size + 1, 2, none⟩ = some (.slice (some ⟨b1, o1, none⟩) blocks.length bc) ∧ W.cell? ⟨w.heap.size + 1 + 1, 0, none⟩ = some (.slice (some ⟨b3, o3, none⟩) phis.length pc) ∧ W.cell? ⟨b3, o3 + i * 2, none⟩ = some (.int .i64 ft) ∧ W.cell? ⟨b3, o3 + i * 2 + 1, none⟩ = some (.slice aa args.length ac))) (by kernel_rfl) ⟨k0, k1, k2, m0, p0, p1⟩ (fun hHeld => ?_)
                          refine wpAnyH_take (i := 0) (oi := ⟨some 98, _, _, _, _, _⟩) (v := ?_) rfl (by kernel_rfl) (by kernel_rfl) (by kernel_rfl) (fun _ _ _ h => h) (Or.inl ⟨by rfl, ?_⟩) (by assumption) ?_
                          rotate_left
                          · (intro w hSw; (try dsimp only at hSw); go_simp; all_goals (try with_reducible rfl))
                          (try simp only [Act.put, List.setIfInBounds_toArray, List.set_cons_zero, List.set_cons_succ])
                          refine wpAnyH_take (i := 1) (oi := ⟨some 99, _, _, _, _, _⟩) (v := ?_) rfl (by kernel_rfl) (by kernel_rfl) (by kernel_rfl) (fun _ _ _ h => h) (Or.inl ⟨by rfl, ?_⟩) (by assumption) ?_
                          rotate_left
                          · (intro w hSw; (try dsimp only at hSw); go_simp; all_goals (try with_reducible rfl))
                          (try simp only [Act.put, List.setIfInBounds_toArray, List.set_cons_zero, List.set_cons_succ])
                          refine wpAnyH_take (i := 2) (oi := ⟨some 100, _, _, _, _, _⟩) (v := ?_) rfl (by kernel_rfl) (by kernel_rfl) (by kernel_rfl) (fun _ _ _ h => h) (Or.inl ⟨by rfl, ?_⟩) (by assumption) ?_
                          rotate_left
                          · (intro w hSw; (try dsimp only at hSw); go_simp; all_goals (try with_reducible rfl))
                          (try simp only [Act.put, List.setIfInBounds_toArray, List.set_cons_zero, List.set_cons_succ])
                          refine wpAnyH_take (i := 3) (oi := ⟨some 101, _, _, _, _, _⟩) (v := ?_) rfl (by kernel_rfl) (by kernel_rfl) (by kernel_rfl) (fun _ _ _ h => h) (Or.inl ⟨by rfl, ?_⟩) (by assumption) ?_
                          rotate_left
                          · (intro w hSw; (try dsimp only at hSw); go_simp; all_goals (try with_reducible rfl))
                          (try simp only [Act.put, List.setIfInBounds_toArray, List.set_cons_zero, List.set_cons_succ])
                          refine wpAnyH_take (i := 4) (oi := ⟨some 102, _, _, _, _, _⟩) (v := ?_) rfl (by kernel_rfl) (by kernel_rfl) (by kernel_rfl) (fun _ _ _ h => h) (Or.inl ⟨by rfl, ?_⟩) (by assumption) ?_
                          rotate_left
                          · (intro w hSw; (try dsimp only at hSw); go_simp; all_goals (try with_reducible rfl))
                          (try simp only [Act.put, List.setIfInBounds_toArray, List.set_cons_zero, List.set_cons_succ])
                          refine wpAnyH_take (i := 5) (oi := ⟨some 103, _, _, _, _, _⟩) (v := ?_) rfl (by kernel_rfl) (by kernel_rfl) (by kernel_rfl) (fun _ _ _ h => h) (Or.inl ⟨by rfl, ?_⟩) (by assumption) ?_
                          rotate_left
                          · (intro w hSw; (try dsimp only at hSw); go_simp; all_goals (try with_reducible rfl))
                          (try simp only [Act.put, List.setIfInBounds_toArray, List.set_cons_zero, List.set_cons_succ])
                          refine wpAnyH_take (i := 6) (oi := ⟨some 104, _, _, _, _, _⟩) (v := ?_) rfl (by kernel_rfl) (by kernel_rfl) (by kernel_rfl) (fun _ _ _ h => h) (Or.inl ⟨by rfl, ?_⟩) (by assumption) ?_
                          rotate_left
                          · (intro w hSw; (try dsimp only at hSw); go_simp; all_goals (try with_reducible rfl))
                          (try simp only [Act.put, List.setIfInBounds_toArray, List.set_cons_zero, List.set_cons_succ])
                          refine wpAnyH_take (i := 7) (oi := ⟨some 105, _, _, _, _, _⟩) (v := ?_) rfl (by kernel_rfl) (by kernel_rfl) (by kernel_rfl) (fun _ _ _ h => h) (Or.inl ⟨by rfl, ?_⟩) (by assumption) ?_
                          rotate_left
                          · (intro w hSw; (try dsimp only at hSw); go_simp; all_goals (try with_reducible rfl))
                          (try simp only [Act.put, List.setIfInBounds_toArray, List.set_cons_zero, List.set_cons_succ])
                          refine wpAnyH_take (i := 8) (oi := ⟨some 106, _, _, _, _, _⟩) (v := ?_) rfl (by kernel_rfl) (by kernel_rfl) (by kernel_rfl) (fun _ _ _ h => h) (Or.inl ⟨by rfl, ?_⟩) (by assumption) ?_
                          rotate_left
                          · (intro w hSw; (try dsimp only at hSw); go_simp; all_goals (try with_reducible rfl))
                          (try simp only [Act.put, List.setIfInBounds_toArray, List.set_cons_zero, List.set_cons_succ])
                          refine wpAnyH_take (i := 9) (oi := ⟨some 107, _, _, _, _, _⟩) (v := ?_) rfl (by kernel_rfl) (by kernel_rfl) (by kernel_rfl) (fun _ _ _ h => h) (Or.inl ⟨by rfl, ?_⟩) (by assumption) ?_
                          rotate_left
                          · (intro w hSw; (try dsimp only at hSw); go_simp; all_goals (try with_reducible rfl))
                          (try simp only [Act.put, List.setIfInBounds_toArray, List.set_cons_zero, List.set_cons_succ])
                          refine wpAnyH_take (i := 10) (oi := ⟨some 108, _, _, _, _, _⟩) (v := ?_) rfl (by kernel_rfl) (by kernel_rfl) (by kernel_rfl) (fun _ _ _ h => h) (Or.inl ⟨by rfl, ?_⟩) (by assumption) ?_
                          rotate_left
                          · (intro w hSw; (try dsimp only at hSw); go_simp; all_goals (try with_reducible rfl))
                          (try simp only [Act.put, List.setIfInBounds_toArray, List.set_cons_zero, List.set_cons_succ])
                          refine wpAnyH_take (i := 11) (oi := ⟨some 109, _, _, _, _, _⟩) (v := ?_) rfl (by kernel_rfl) (by kernel_rfl) (by kernel_rfl) (fun _ _ _ h => h) (Or.inl ⟨by rfl, ?_⟩) (by assumption) ?_
                          rotate_left
                          · (intro w hSw; (try dsimp only at hSw); go_simp; all_goals (try with_reducible rfl))
                          (try simp only [Act.put, List.setIfInBounds_toArray, List.set_cons_zero, List.set_cons_succ])
                          refine wpAnyH_take (i := 12) (oi := ⟨some 110, _, _, _, _, _⟩) (v := ?_) rfl (by kernel_rfl) (by kernel_rfl) (by kernel_rfl) (fun _ _ _ h => h) (Or.inl ⟨by rfl, ?_⟩) (by assumption) ?_
                          rotate_left
                          · (intro w hSw; (try dsimp only at hSw); go_simp; all_goals (try with_reducible rfl))
                          (try simp only [Act.put, List.setIfInBounds_toArray, List.set_cons_zero, List.set_cons_succ])
                          refine wpAnyH_take (i := 13) (oi := ⟨some 111, _, _, _, _, _⟩) (v := ?_) rfl (by kernel_rfl) (by kernel_rfl) (by kernel_rfl) (fun _ _ _ h => h) (Or.inl ⟨by rfl, ?_⟩) (by assumption) ?_
                          rotate_left
                          · (intro w hSw; (try dsimp only at hSw); go_simp; all_goals (try with_reducible rfl))
                          (try simp only [Act.put, List.setIfInBounds_toArray, List.set_cons_zero, List.set_cons_succ])
                          refine wpAnyH_take (i := 14) (oi := ⟨some 112, _, _, _, _, _⟩) (v := ?_) rfl (by kernel_rfl) (by kernel_rfl) (by kernel_rfl) (fun _ _ _ h => h) (Or.inl ⟨by rfl, ?_⟩) (by assumption) ?_
                          rotate_left
                          · (intro w hSw; (try dsimp only at hSw); go_simp; all_goals (try with_reducible rfl))
                          (try simp only [Act.put, List.setIfInBounds_toArray, List.set_cons_zero, List.set_cons_succ])
                          refine wpAnyH_take (i := 15) (oi := ⟨some 113, _, _, _, _, _⟩) (v := ?_) rfl (by kernel_rfl) (by kernel_rfl) (by kernel_rfl) (fun _ _ _ h => h) (Or.inl ⟨by rfl, ?_⟩) (by assumption) ?_
                          rotate_left
                          · (intro w hSw; (try dsimp only at hSw); go_simp; all_goals (try with_reducible rfl))
                          (try simp only [Act.put, List.setIfInBounds_toArray, List.set_cons_zero, List.set_cons_succ])
                          refine wpAnyH_take (i := 16) (oi := ⟨some 114, _, _, _, _, _⟩) (v := ?_) rfl (by kernel_rfl) (by kernel_rfl) (by kernel_rfl) (fun _ _ _ h => h) (Or.inl ⟨by rfl, ?_⟩) (by assumption) ?_
                          rotate_left
                          · (intro w hSw; (try dsimp only at hSw); go_simp; all_goals (try with_reducible rfl))
                          (try simp only [Act.put, List.setIfInBounds_toArray, List.set_cons_zero, List.set_cons_succ])
                          refine wpAnyH_take (i := 17) (oi := ⟨some 115, _, _, _, _, _⟩) (v := ?_) rfl (by kernel_rfl) (by kernel_rfl) (by kernel_rfl) (fun _ _ _ h => h) (Or.inl ⟨by rfl, ?_⟩) (by assumption) ?_
                          rotate_left
                          · (intro w hSw; (try dsimp only at hSw); go_simp; all_goals (try with_reducible rfl))
                          (try simp only [Act.put, List.setIfInBounds_toArray, List.set_cons_zero, List.set_cons_succ])
                          refine wpAnyH_take (i := 18) (oi := ⟨some 116, _, _, _, _, _⟩) (v := ?_) rfl (by kernel_rfl) (by kernel_rfl) (by kernel_rfl) (fun _ _ _ h => h) (Or.inl ⟨by rfl, ?_⟩) (by assumption) ?_
                          rotate_left
                          · (intro w hSw; (try dsimp only at hSw); go_simp; all_goals (try with_reducible rfl))
                          (try simp only [Act.put, List.setIfInBounds_toArray, List.set_cons_zero, List.set_cons_succ])
                          refine wpAnyH_take (i := 19) (oi := ⟨some 117, _, _, _, _, _⟩) (v := ?_) rfl (by kernel_rfl) (by kernel_rfl) (by kernel_rfl) (fun _ _ _ h => h) (Or.inl ⟨by rfl, ?_⟩) (by assumption) ?_
                          rotate_left
                          · (intro w hSw; (try dsimp only at hSw); go_simp; all_goals (try with_reducible rfl))
                          (try simp only [Act.put, List.setIfInBounds_toArray, List.set_cons_zero, List.set_cons_succ])
                          refine wpAnyH_take (i := 20) (oi := ⟨some 118, _, _, _, _, _⟩) (v := ?_) rfl (by kernel_rfl) (by kernel_rfl) (by kernel_rfl) (fun _ _ _ h => h) (Or.inl ⟨by rfl, ?_⟩) (by assumption) ?_
                          rotate_left
                          · (intro w hSw; (try dsimp only at hSw); go_simp; all_goals (try with_reducible rfl))
                          (try simp only [Act.put, List.setIfInBounds_toArray, List.set_cons_zero, List.set_cons_succ])
                          refine wpAnyH_take (i := 21) (oi := ⟨some 119, _, _, _, _, _⟩) (v := ?_) rfl (by kernel_rfl) (by kernel_rfl) (by kernel_rfl) (fun _ _ _ h => h) (Or.inl ⟨by rfl, ?_⟩) (by assumption) ?_
                          rotate_left
                          · (intro w hSw; (try dsimp only at hSw); go_simp; all_goals (try with_reducible rfl))
                          (try simp only [Act.put, List.setIfInBounds_toArray, List.set_cons_zero, List.set_cons_succ])
                          refine wpAnyH_ready (rs := [22]) (by kernel_rfl) (by simp) ?_
                          refine AllReadyH.cons (o := ⟨some 120, _, _, _, _, _⟩) rfl (fun K hK => ?_) AllReadyH.nil
                          go_simp
                          (go_at_call 74; refine (HQ.out _ (below_drewN (Below.refl _ _) 1)).mono ?_; rintro e w9 ⟨rfl, hb9⟩; (have HB9 := Lib.hid (show Below wr.heap.size wr w9 from ⟨hb9.os, hb9.tape, hb9.output, hb9.size, hb9.block⟩)); clear hb9)
                          refine hK.out _ _ ⟨cell_later HB9.out k0, cell_later HB9.out k1, cell_later HB9.out k2, cell_later HB9.out m0, cell_later HB9.out p0, cell_later HB9.out p1⟩ (fun hHeld2 => ?_)
                          clear hK K hHeld
                          have hHeld := hHeld2
                          clear hHeld2
                          (try simp only [Act.put, List.setIfInBounds_toArray, List.set_cons_zero, List.set_cons_succ])
                          refine wpAnyH_take (i := 23) (oi := ⟨some 121, _, _, _, _, _⟩) (v := ?_) rfl (by kernel_rfl) (by kernel_rfl) (by kernel_rfl) (fun _ _ _ h => h) (Or.inl ⟨by rfl, ?_⟩) (by assumption) ?_
                          rotate_left
                          · (intro w hSw; (try dsimp only at hSw); go_simp; all_goals (try with_reducible rfl))
                          (try simp only [Act.put, List.setIfInBounds_toArray, List.set_cons_zero, List.set_cons_succ])
                          refine wpAnyH_take (i := 24) (oi := ⟨some 122, _, _, _, _, _⟩) (v := ?_) rfl (by kernel_rfl) (by kernel_rfl) (by kernel_rfl) (fun _ _ _ h => h) (Or.inl ⟨by rfl, ?_⟩) (by assumption) ?_
                          rotate_left
                          · (intro w hSw; (try dsimp only at hSw); go_simp; all_goals (try with_reducible rfl))
                          (try simp only [Act.put, List.setIfInBounds_toArray, List.set_cons_zero, List.set_cons_succ])
                          refine wpAnyH_take (i := 25) (oi := ⟨some 123, _, _, _, _, _⟩) (v := ?_) rfl (by kernel_rfl) (by kernel_rfl) (by kernel_rfl) (fun _ _ _ h => h) (Or.inl ⟨by rfl, ?_⟩) (by assumption) ?_
                          rotate_left
                          · (intro w hSw; (try dsimp only at hSw); go_simp; all_goals (try with_reducible rfl))
                          (try simp only [Act.put, List.setIfInBounds_toArray, List.set_cons_zero, List.set_cons_succ])
                          refine wpAnyH_take (i := 26) (oi := ⟨some 124, _, _, _, _, _⟩) (v := undef) rfl (by kernel_rfl) (by kernel_rfl) (by kernel_rfl) (fun _ _ _ h => h) (Or.inr ⟨by rfl, rfl⟩) (by assumption) ?_
                          (try simp only [Act.put, List.setIfInBounds_toArray, List.set_cons_zero, List.set_cons_succ])
                          refine wpAnyH_take (i := 27) (oi := ⟨some 125, _, _, _, _, _⟩) (v := undef) rfl (by kernel_rfl) (by kernel_rfl) (by kernel_rfl) (fun _ _ _ h => h) (Or.inr ⟨by rfl, rfl⟩) (by assumption) ?_
                          (try simp only [Act.put, List.setIfInBounds_toArray, List.set_cons_zero, List.set_cons_succ])
                          refine wpAnyH_take (i := 28) (oi := ⟨some 126, _, _, _, _, _⟩) (v := undef) rfl (by kernel_rfl) (by kernel_rfl) (by kernel_rfl) (fun _ _ _ h => h) (Or.inr ⟨by rfl, rfl⟩) (by assumption) ?_
                          (try simp only [Act.put, List.setIfInBounds_toArray, List.set_cons_zero, List.set_cons_succ])
                          refine wpAnyH_take (i := 29) (oi := ⟨some 127, _, _, _, _, _⟩) (v := undef) rfl (by kernel_rfl) (by kernel_rfl) (by kernel_rfl) (fun _ _ _ h => h) (Or.inr ⟨by rfl, rfl⟩) (by assumption) ?_
                          (try simp only [Act.put, List.setIfInBounds_toArray, List.set_cons_zero, List.set_cons_succ])
                          refine wpAnyH_take (i := 30) (oi := ⟨some 128, _, _, _, _, _⟩) (v := undef) rfl (by kernel_rfl) (by kernel_rfl) (by kernel_rfl) (fun _ _ _ h => h) (Or.inr ⟨by rfl, rfl⟩) (by assumption) ?_
                          (try simp only [Act.put, List.setIfInBounds_toArray, List.set_cons_zero, List.set_cons_succ])
                          refine wpAnyH_take (i := 31) (oi := ⟨some 129, _, _, _, _, _⟩) (v := undef) rfl (by kernel_rfl) (by kernel_rfl) (by kernel_rfl) (fun _ _ _ h => h) (Or.inr ⟨by rfl, rfl⟩) (by assumption) ?_
                          (try simp only [Act.put, List.setIfInBounds_toArray, List.set_cons_zero, List.set_cons_succ])
                          refine wpAnyH_take (i := 32) (oi := ⟨some 130, _, _, _, _, _⟩) (v := undef) rfl (by kernel_rfl) (by kernel_rfl) (by kernel_rfl) (fun _ _ _ h => h) (Or.inr ⟨by rfl, rfl⟩) (by assumption) ?_
                          (try simp only [Act.put, List.setIfInBounds_toArray, List.set_cons_zero, List.set_cons_succ])
                          refine wpAnyH_take (i := 33) (oi := ⟨some 131, _, _, _, _, _⟩) (v := undef) rfl (by kernel_rfl) (by kernel_rfl) (by kernel_rfl) (fun _ _ _ h => h) (Or.inr ⟨by rfl, rfl⟩) (by assumption) ?_
                          (try simp only [Act.put, List.setIfInBounds_toArray, List.set_cons_zero, List.set_cons_succ])
                          refine wpAnyH_take (i := 34) (oi := ⟨some 132, _, _, _, _, _⟩) (v := undef) rfl (by kernel_rfl) (by kernel_rfl) (by kernel_rfl) (fun _ _ _ h => h) (Or.inr ⟨by rfl, rfl⟩) (by assumption) ?_
                          (try simp only [Act.put, List.setIfInBounds_toArray, List.set_cons_zero, List.set_cons_succ])
                          refine wpAnyH_take (i := 35) (oi := ⟨some 133, _, _, _, _, _⟩) (v := undef) rfl (by kernel_rfl) (by kernel_rfl) (by kernel_rfl) (fun _ _ _ h => h) (Or.inr ⟨by rfl, rfl⟩) (by assumption) ?_
                          (try simp only [Act.put, List.setIfInBounds_toArray, List.set_cons_zero, List.set_cons_succ])
                          refine wpAnyH_take (i := 36) (oi := ⟨some 134, _, _, _, _, _⟩) (v := undef) rfl (by kernel_rfl) (by kernel_rfl) (by kernel_rfl) (fun _ _ _ h => h) (Or.inr ⟨by rfl, rfl⟩) (by assumption) ?_
                          (try simp only [Act.put, List.setIfInBounds_toArray, List.set_cons_zero, List.set_cons_succ])
                          refine wpAnyH_take (i := 37) (oi := ⟨some 135, _, _, _, _, _⟩) (v := ?_) rfl (by kernel_rfl) (by kernel_rfl) (by kernel_rfl) (fun _ _ _ h => h) (Or.inl ⟨by rfl, ?_⟩) (by assumption) ?_
                          rotate_left
                          · (intro w hSw; (try dsimp only at hSw); go_simp; all_goals (try with_reducible rfl))
                          (try simp only [Act.put, List.setIfInBounds_toArray, List.set_cons_zero, List.set_cons_succ])
                          refine wpAnyH_done (by kernel_rfl) ?_ _
                          all_goals
                            clear HQ
                            go_wp2
                            go_ret
                            exact ⟨ret_bool HN.out.symm, HY.out.2.trans (HB9.out.mono HY.out.2.size)⟩
                        | false =>
                          simp only [hva, Bool.not_false] at hq
                          have HQ := Lib.hid hq
                          have HP2 := Lib.hid (show phiB regs b ps.length ⟨ft, args⟩ = inR regs ft by rw [HP.out, hb0, hle, hva]; simp)
                          clear hq hva
                          have hwr : IntKind.i64.wrap (regs - 1) = regs - 1 := by rw [IntKind.wrap_i64]; omega
                          cases hin : inR regs ft with
                          | false =>
                            have HW := Lib.hid (fun W => l1In_is (show (decide (0 ≤ ft) && decide (ft ≤ regs - 1)) = false from hin) W)
                            have HN := Lib.hid (show blockB us k ⟨params, regs, blocks⟩ b ⟨phis, ins, jump, jon, nx⟩ = false by rw [HB3.out]; exact all_stop HY.out.1 (by rw [HP2.out, hin]))
                            clear hin
                            go_wp2_with fail
                            refine wp_region_held_drew (S := (fun W => W.cell? ⟨w.heap.size + 1, 0, none⟩ = some (.int .i64 params) ∧ W.cell? ⟨w.heap.size + 1, 1, none⟩ = some (.int .i64 regs) ∧ W.cell? ⟨w.heap.size + 1, 2, none⟩ = some (.slice (some ⟨b1, o1, none⟩) blocks.length bc) ∧ W.cell? ⟨w.heap.size + 1 + 1, 0, none⟩ = some (.slice (some ⟨b3, o3, none⟩) phis.length pc) ∧ W.cell? ⟨b3, o3 + i * 2, none⟩ = some (.int .i64 ft) ∧ W.cell? ⟨b3, o3 + i * 2 + 1, none⟩ = some (.slice aa args.length ac))) (by kernel_rfl) ⟨k0, k1, k2, m0, p0, p1⟩ (fun hHeld => ?_)
                            refine wpAnyH_take (i := 0) (oi := ⟨some 98, _, _, _, _, _⟩) (v := ?_) rfl (by kernel_rfl) (by kernel_rfl) (by kernel_rfl) (fun _ _ _ h => h) (Or.inl ⟨by rfl, ?_⟩) (by assumption) ?_
                            rotate_left
                            · (intro w hSw; (try dsimp only at hSw); go_simp; all_goals (try with_reducible rfl))
                            (try simp only [Act.put, List.setIfInBounds_toArray, List.set_cons_zero, List.set_cons_succ])
                            refine wpAnyH_take (i := 1) (oi := ⟨some 99, _, _, _, _, _⟩) (v := ?_) rfl (by kernel_rfl) (by kernel_rfl) (by kernel_rfl) (fun _ _ _ h => h) (Or.inl ⟨by rfl, ?_⟩) (by assumption) ?_
                            rotate_left
                            · (intro w hSw; (try dsimp only at hSw); go_simp; all_goals (try with_reducible rfl))
                            (try simp only [Act.put, List.setIfInBounds_toArray, List.set_cons_zero, List.set_cons_succ])
                            refine wpAnyH_take (i := 2) (oi := ⟨some 100, _, _, _, _, _⟩) (v := ?_) rfl (by kernel_rfl) (by kernel_rfl) (by kernel_rfl) (fun _ _ _ h => h) (Or.inl ⟨by rfl, ?_⟩) (by assumption) ?_
                            rotate_left
                            · (intro w hSw; (try dsimp only at hSw); go_simp; all_goals (try with_reducible rfl))
                            (try simp only [Act.put, List.setIfInBounds_toArray, List.set_cons_zero, List.set_cons_succ])
                            refine wpAnyH_take (i := 3) (oi := ⟨some 101, _, _, _, _, _⟩) (v := ?_) rfl (by kernel_rfl) (by kernel_rfl) (by kernel_rfl) (fun _ _ _ h => h) (Or.inl ⟨by rfl, ?_⟩) (by assumption) ?_
                            rotate_left
                            · (intro w hSw; (try dsimp only at hSw); go_simp; all_goals (try with_reducible rfl))
                            (try simp only [Act.put, List.setIfInBounds_toArray, List.set_cons_zero, List.set_cons_succ])
                            refine wpAnyH_take (i := 4) (oi := ⟨some 102, _, _, _, _, _⟩) (v := ?_) rfl (by kernel_rfl) (by kernel_rfl) (by kernel_rfl) (fun _ _ _ h => h) (Or.inl ⟨by rfl, ?_⟩) (by assumption) ?_
                            rotate_left
                            · (intro w hSw; (try dsimp only at hSw); go_simp; all_goals (try with_reducible rfl))
                            (try simp only [Act.put, List.setIfInBounds_toArray, List.set_cons_zero, List.set_cons_succ])
                            refine wpAnyH_take (i := 5) (oi := ⟨some 103, _, _, _, _, _⟩) (v := ?_) rfl (by kernel_rfl) (by kernel_rfl) (by kernel_rfl) (fun _ _ _ h => h) (Or.inl ⟨by rfl, ?_⟩) (by assumption) ?_
                            rotate_left
                            · (intro w hSw; (try dsimp only at hSw); go_simp; all_goals (try with_reducible rfl))
                            (try simp only [Act.put, List.setIfInBounds_toArray, List.set_cons_zero, List.set_cons_succ])
                            refine wpAnyH_take (i := 6) (oi := ⟨some 104, _, _, _, _, _⟩) (v := ?_) rfl (by kernel_rfl) (by kernel_rfl) (by kernel_rfl) (fun _ _ _ h => h) (Or.inl ⟨by rfl, ?_⟩) (by assumption) ?_
                            rotate_left
                            · (intro w hSw; (try dsimp only at hSw); go_simp; all_goals (try with_reducible rfl))
                            (try simp only [Act.put, List.setIfInBounds_toArray, List.set_cons_zero, List.set_cons_succ])
                            refine wpAnyH_take (i := 7) (oi := ⟨some 105, _, _, _, _, _⟩) (v := ?_) rfl (by kernel_rfl) (by kernel_rfl) (by kernel_rfl) (fun _ _ _ h => h) (Or.inl ⟨by rfl, ?_⟩) (by assumption) ?_
                            rotate_left
                            · (intro w hSw; (try dsimp only at hSw); go_simp; all_goals (try with_reducible rfl))
                            (try simp only [Act.put, List.setIfInBounds_toArray, List.set_cons_zero, List.set_cons_succ])
                            refine wpAnyH_take (i := 8) (oi := ⟨some 106, _, _, _, _, _⟩) (v := ?_) rfl (by kernel_rfl) (by kernel_rfl) (by kernel_rfl) (fun _ _ _ h => h) (Or.inl ⟨by rfl, ?_⟩) (by assumption) ?_
                            rotate_left
                            · (intro w hSw; (try dsimp only at hSw); go_simp; all_goals (try with_reducible rfl))
                            (try simp only [Act.put, List.setIfInBounds_toArray, List.set_cons_zero, List.set_cons_succ])
                            refine wpAnyH_take (i := 9) (oi := ⟨some 107, _, _, _, _, _⟩) (v := ?_) rfl (by kernel_rfl) (by kernel_rfl) (by kernel_rfl) (fun _ _ _ h => h) (Or.inl ⟨by rfl, ?_⟩) (by assumption) ?_
                            rotate_left
                            · (intro w hSw; (try dsimp only at hSw); go_simp; all_goals (try with_reducible rfl))
                            (try simp only [Act.put, List.setIfInBounds_toArray, List.set_cons_zero, List.set_cons_succ])
                            refine wpAnyH_take (i := 10) (oi := ⟨some 108, _, _, _, _, _⟩) (v := ?_) rfl (by kernel_rfl) (by kernel_rfl) (by kernel_rfl) (fun _ _ _ h => h) (Or.inl ⟨by rfl, ?_⟩) (by assumption) ?_
                            rotate_left
                            · (intro w hSw; (try dsimp only at hSw); go_simp; all_goals (try with_reducible rfl))
                            (try simp only [Act.put, List.setIfInBounds_toArray, List.set_cons_zero, List.set_cons_succ])
                            refine wpAnyH_take (i := 11) (oi := ⟨some 109, _, _, _, _, _⟩) (v := ?_) rfl (by kernel_rfl) (by kernel_rfl) (by kernel_rfl) (fun _ _ _ h => h) (Or.inl ⟨by rfl, ?_⟩) (by assumption) ?_
                            rotate_left
                            · (intro w hSw; (try dsimp only at hSw); go_simp; all_goals (try with_reducible rfl))
                            (try simp only [Act.put, List.setIfInBounds_toArray, List.set_cons_zero, List.set_cons_succ])
                            refine wpAnyH_take (i := 12) (oi := ⟨some 110, _, _, _, _, _⟩) (v := ?_) rfl (by kernel_rfl) (by kernel_rfl) (by kernel_rfl) (fun _ _ _ h => h) (Or.inl ⟨by rfl, ?_⟩) (by assumption) ?_
                            rotate_left
                            · (intro w hSw; (try dsimp only at hSw); go_simp; all_goals (try with_reducible rfl))
                            (try simp only [Act.put, List.setIfInBounds_toArray, List.set_cons_zero, List.set_cons_succ])
                            refine wpAnyH_take (i := 13) (oi := ⟨some 111, _, _, _, _, _⟩) (v := ?_) rfl (by kernel_rfl) (by kernel_rfl) (by kernel_rfl) (fun _ _ _ h => h) (Or.inl ⟨by rfl, ?_⟩) (by assumption) ?_
                            rotate_left
                            · (intro w hSw; (try dsimp only at hSw); go_simp; all_goals (try with_reducible rfl))
                            (try simp only [Act.put, List.setIfInBounds_toArray, List.set_cons_zero, List.set_cons_succ])
                            refine wpAnyH_take (i := 14) (oi := ⟨some 112, _, _, _, _, _⟩) (v := ?_) rfl (by kernel_rfl) (by kernel_rfl) (by kernel_rfl) (fun _ _ _ h => h) (Or.inl ⟨by rfl, ?_⟩) (by assumption) ?_
                            rotate_left
                            · (intro w hSw; (try dsimp only at hSw); go_simp; all_goals (try with_reducible rfl))
                            (try simp only [Act.put, List.setIfInBounds_toArray, List.set_cons_zero, List.set_cons_succ])
                            refine wpAnyH_take (i := 15) (oi := ⟨some 113, _, _, _, _, _⟩) (v := ?_) rfl (by kernel_rfl) (by kernel_rfl) (by kernel_rfl) (fun _ _ _ h => h) (Or.inl ⟨by rfl, ?_⟩) (by assumption) ?_
                            rotate_left
                            · (intro w hSw; (try dsimp only at hSw); go_simp; all_goals (try with_reducible rfl))
                            (try simp only [Act.put, List.setIfInBounds_toArray, List.set_cons_zero, List.set_cons_succ])
                            refine wpAnyH_take (i := 16) (oi := ⟨some 114, _, _, _, _, _⟩) (v := ?_) rfl (by kernel_rfl) (by kernel_rfl) (by kernel_rfl) (fun _ _ _ h => h) (Or.inl ⟨by rfl, ?_⟩) (by assumption) ?_
                            rotate_left
                            · (intro w hSw; (try dsimp only at hSw); go_simp; all_goals (try with_reducible rfl))
                            (try simp only [Act.put, List.setIfInBounds_toArray, List.set_cons_zero, List.set_cons_succ])
                            refine wpAnyH_take (i := 17) (oi := ⟨some 115, _, _, _, _, _⟩) (v := ?_) rfl (by kernel_rfl) (by kernel_rfl) (by kernel_rfl) (fun _ _ _ h => h) (Or.inl ⟨by rfl, ?_⟩) (by assumption) ?_
                            rotate_left
                            · (intro w hSw; (try dsimp only at hSw); go_simp; all_goals (try with_reducible rfl))
                            (try simp only [Act.put, List.setIfInBounds_toArray, List.set_cons_zero, List.set_cons_succ])
                            refine wpAnyH_take (i := 18) (oi := ⟨some 116, _, _, _, _, _⟩) (v := ?_) rfl (by kernel_rfl) (by kernel_rfl) (by kernel_rfl) (fun _ _ _ h => h) (Or.inl ⟨by rfl, ?_⟩) (by assumption) ?_
                            rotate_left
                            · (intro w hSw; (try dsimp only at hSw); go_simp; all_goals (try with_reducible rfl))
                            (try simp only [Act.put, List.setIfInBounds_toArray, List.set_cons_zero, List.set_cons_succ])
                            refine wpAnyH_take (i := 19) (oi := ⟨some 117, _, _, _, _, _⟩) (v := ?_) rfl (by kernel_rfl) (by kernel_rfl) (by kernel_rfl) (fun _ _ _ h => h) (Or.inl ⟨by rfl, ?_⟩) (by assumption) ?_
                            rotate_left
                            · (intro w hSw; (try dsimp only at hSw); go_simp; all_goals (try with_reducible rfl))
                            (try simp only [Act.put, List.setIfInBounds_toArray, List.set_cons_zero, List.set_cons_succ])
                            refine wpAnyH_take (i := 20) (oi := ⟨some 118, _, _, _, _, _⟩) (v := ?_) rfl (by kernel_rfl) (by kernel_rfl) (by kernel_rfl) (fun _ _ _ h => h) (Or.inl ⟨by rfl, ?_⟩) (by assumption) ?_
                            rotate_left
                            · (intro w hSw; (try dsimp only at hSw); go_simp; all_goals (try with_reducible rfl))
                            (try simp only [Act.put, List.setIfInBounds_toArray, List.set_cons_zero, List.set_cons_succ])
                            refine wpAnyH_take (i := 21) (oi := ⟨some 119, _, _, _, _, _⟩) (v := ?_) rfl (by kernel_rfl) (by kernel_rfl) (by kernel_rfl) (fun _ _ _ h => h) (Or.inl ⟨by rfl, ?_⟩) (by assumption) ?_
                            rotate_left
                            · (intro w hSw; (try dsimp only at hSw); go_simp; all_goals (try with_reducible rfl))
                            (try simp only [Act.put, List.setIfInBounds_toArray, List.set_cons_zero, List.set_cons_succ])
                            refine wpAnyH_ready (rs := [22]) (by kernel_rfl) (by simp) ?_
                            refine AllReadyH.cons (o := ⟨some 120, _, _, _, _, _⟩) rfl (fun K hK => ?_) AllReadyH.nil
                            go_simp
                            (go_at_call 74; refine (HQ.out _ (below_drewN (Below.refl _ _) 1)).mono ?_; rintro e w9 ⟨rfl, hb9⟩; (have HB9 := Lib.hid (show Below wr.heap.size wr w9 from ⟨hb9.os, hb9.tape, hb9.output, hb9.size, hb9.block⟩)); clear hb9)
                            refine hK.out _ _ ⟨cell_later HB9.out k0, cell_later HB9.out k1, cell_later HB9.out k2, cell_later HB9.out m0, cell_later HB9.out p0, cell_later HB9.out p1⟩ (fun hHeld2 => ?_)
                            clear hK K hHeld
                            have hHeld := hHeld2
                            clear hHeld2
                            (try simp only [Act.put, List.setIfInBounds_toArray, List.set_cons_zero, List.set_cons_succ])
                            refine wpAnyH_take (i := 23) (oi := ⟨some 121, _, _, _, _, _⟩) (v := ?_) rfl (by kernel_rfl) (by kernel_rfl) (by kernel_rfl) (fun _ _ _ h => h) (Or.inl ⟨by rfl, ?_⟩) (by assumption) ?_
                            rotate_left
                            · (intro w hSw; (try dsimp only at hSw); go_simp; all_goals (try with_reducible rfl))
                            (try simp only [Act.put, List.setIfInBounds_toArray, List.set_cons_zero, List.set_cons_succ])
                            refine wpAnyH_take (i := 24) (oi := ⟨some 122, _, _, _, _, _⟩) (v := ?_) rfl (by kernel_rfl) (by kernel_rfl) (by kernel_rfl) (fun _ _ _ h => h) (Or.inl ⟨by rfl, ?_⟩) (by assumption) ?_
                            rotate_left
                            · (intro w hSw; (try dsimp only at hSw); go_simp; all_goals (try with_reducible rfl))
                            (try simp only [Act.put, List.setIfInBounds_toArray, List.set_cons_zero, List.set_cons_succ])
                            refine wpAnyH_take (i := 25) (oi := ⟨some 123, _, _, _, _, _⟩) (v := ?_) rfl (by kernel_rfl) (by kernel_rfl) (by kernel_rfl) (fun _ _ _ h => h) (Or.inl ⟨by rfl, ?_⟩) (by assumption) ?_
                            rotate_left
                            · (intro w hSw; (try dsimp only at hSw); go_simp; all_goals (try with_reducible rfl))
                            (try simp only [Act.put, List.setIfInBounds_toArray, List.set_cons_zero, List.set_cons_succ])
                            refine wpAnyH_take (i := 26) (oi := ⟨some 124, _, _, _, _, _⟩) (v := ?_) rfl (by kernel_rfl) (by kernel_rfl) (by kernel_rfl) (fun _ _ _ h => h) (Or.inl ⟨by rfl, ?_⟩) (by assumption) ?_
                            rotate_left
                            · (intro w hSw; (try dsimp only at hSw); go_simp; all_goals (try with_reducible rfl))
                            (try simp only [Act.put, List.setIfInBounds_toArray, List.set_cons_zero, List.set_cons_succ])
                            refine wpAnyH_take (i := 27) (oi := ⟨some 125, _, _, _, _, _⟩) (v := ?_) rfl (by kernel_rfl) (by kernel_rfl) (by kernel_rfl) (fun _ _ _ h => h) (Or.inl ⟨by rfl, ?_⟩) (by assumption) ?_
                            rotate_left
                            · (intro w hSw; (try dsimp only at hSw); go_simp; all_goals (try with_reducible rfl))
                            (try simp only [Act.put, List.setIfInBounds_toArray, List.set_cons_zero, List.set_cons_succ])
                            refine wpAnyH_take (i := 28) (oi := ⟨some 126, _, _, _, _, _⟩) (v := ?_) rfl (by kernel_rfl) (by kernel_rfl) (by kernel_rfl) (fun _ _ _ h => h) (Or.inl ⟨by rfl, ?_⟩) (by assumption) ?_
                            rotate_left
                            · (intro w hSw; (try dsimp only at hSw); go_simp; all_goals (try with_reducible rfl))
                            (try simp only [Act.put, List.setIfInBounds_toArray, List.set_cons_zero, List.set_cons_succ])
                            refine wpAnyH_take (i := 29) (oi := ⟨some 127, _, _, _, _, _⟩) (v := ?_) rfl (by kernel_rfl) (by kernel_rfl) (by kernel_rfl) (fun _ _ _ h => h) (Or.inl ⟨by rfl, ?_⟩) (by assumption) ?_
                            rotate_left
                            · (intro w hSw; (try dsimp only at hSw); go_simp; all_goals (try with_reducible rfl))
                            (try simp only [Act.put, List.setIfInBounds_toArray, List.set_cons_zero, List.set_cons_succ])
                            refine wpAnyH_take (i := 30) (oi := ⟨some 128, _, _, _, _, _⟩) (v := ?_) rfl (by kernel_rfl) (by kernel_rfl) (by kernel_rfl) (fun _ _ _ h => h) (Or.inl ⟨by rfl, ?_⟩) (by assumption) ?_
                            rotate_left
                            · (intro w hSw; (try dsimp only at hSw); go_simp; all_goals (try with_reducible rfl))
                            (try simp only [Act.put, List.setIfInBounds_toArray, List.set_cons_zero, List.set_cons_succ])
                            refine wpAnyH_take (i := 31) (oi := ⟨some 129, _, _, _, _, _⟩) (v := ?_) rfl (by kernel_rfl) (by kernel_rfl) (by kernel_rfl) (fun _ _ _ h => h) (Or.inl ⟨by rfl, ?_⟩) (by assumption) ?_
                            rotate_left
                            · (intro w hSw; (try dsimp only at hSw); go_simp; all_goals (try with_reducible rfl))
                            (try simp only [Act.put, List.setIfInBounds_toArray, List.set_cons_zero, List.set_cons_succ])
                            refine wpAnyH_take (i := 32) (oi := ⟨some 130, _, _, _, _, _⟩) (v := ?_) rfl (by kernel_rfl) (by kernel_rfl) (by kernel_rfl) (fun _ _ _ h => h) (Or.inl ⟨by rfl, ?_⟩) (by assumption) ?_
                            rotate_left
                            · (intro w hSw; (try dsimp only at hSw); go_simp; all_goals (try with_reducible rfl))
                            (try simp only [Act.put, List.setIfInBounds_toArray, List.set_cons_zero, List.set_cons_succ])
                            refine wpAnyH_take (i := 33) (oi := ⟨some 131, _, _, _, _, _⟩) (v := ?_) rfl (by kernel_rfl) (by kernel_rfl) (by kernel_rfl) (fun _ _ _ h => h) (Or.inl ⟨by rfl, ?_⟩) (by assumption) ?_
                            rotate_left
                            · (intro w hSw; (try dsimp only at hSw); go_simp; all_goals (try with_reducible rfl))
                            (try simp only [Act.put, List.setIfInBounds_toArray, List.set_cons_zero, List.set_cons_succ])
                            refine wpAnyH_take (i := 34) (oi := ⟨some 132, _, _, _, _, _⟩) (v := ?_) rfl (by kernel_rfl) (by kernel_rfl) (by kernel_rfl) (fun _ _ _ h => h) (Or.inl ⟨by rfl, ?_⟩) (by assumption) ?_
                            rotate_left
                            · (intro w hSw; (try dsimp only at hSw); go_simp; all_goals (try with_reducible rfl))
                            (try simp only [Act.put, List.setIfInBounds_toArray, List.set_cons_zero, List.set_cons_succ])
                            refine wpAnyH_ready (rs := [35]) (by kernel_rfl) (by simp) ?_
                            refine AllReadyH.cons (o := ⟨some 133, _, _, _, _, _⟩) rfl (fun K hK => ?_) AllReadyH.nil
                            go_simp
                            (go_at_call 18; refine (HW.out _).mono ?_; rintro e w10 ⟨rfl, rfl⟩)
                            refine hK.out _ _ ⟨cell_later HB9.out k0, cell_later HB9.out k1, cell_later HB9.out k2, cell_later HB9.out m0, cell_later HB9.out p0, cell_later HB9.out p1⟩ (fun hHeld2 => ?_)
                            clear hK K hHeld
                            have hHeld := hHeld2
                            clear hHeld2
                            (try simp only [Act.put, List.setIfInBounds_toArray, List.set_cons_zero, List.set_cons_succ])
                            refine wpAnyH_take (i := 36) (oi := ⟨some 134, _, _, _, _, _⟩) (v := ?_) rfl (by kernel_rfl) (by kernel_rfl) (by kernel_rfl) (fun _ _ _ h => h) (Or.inl ⟨by rfl, ?_⟩) (by assumption) ?_
                            rotate_left
                            · (intro w hSw; (try dsimp only at hSw); go_simp; all_goals (try with_reducible rfl))
                            (try simp only [Act.put, List.setIfInBounds_toArray, List.set_cons_zero, List.set_cons_succ])
                            refine wpAnyH_take (i := 37) (oi := ⟨some 135, _, _, _, _, _⟩) (v := ?_) rfl (by kernel_rfl) (by kernel_rfl) (by kernel_rfl) (fun _ _ _ h => h) (Or.inl ⟨by rfl, ?_⟩) (by assumption) ?_
                            rotate_left
                            · (intro w hSw; (try dsimp only at hSw); go_simp; all_goals (try with_reducible rfl))
                            (try simp only [Act.put, List.setIfInBounds_toArray, List.set_cons_zero, List.set_cons_succ])
                            refine wpAnyH_done (by kernel_rfl) ?_ _
                            all_goals
                              clear HQ HW
                              go_wp2
                              go_ret
                              exact ⟨ret_bool HN.out.symm, HY.out.2.trans (HB9.out.mono HY.out.2.size)⟩
                          | true =>
                            have HW := Lib.hid (fun W => l1In_is (show (decide (0 ≤ ft) && decide (ft ≤ regs - 1)) = true from hin) W)
                            have HN := Lib.hid (all_next HK.out.2 HY.out.1 (by rw [HP2.out, hin]))
                            clear hin
                            go_wp2_with fail
                            refine wp_region_held_drew (S := (fun W => W.cell? ⟨w.heap.size + 1, 0, none⟩ = some (.int .i64 params) ∧ W.cell? ⟨w.heap.size + 1, 1, none⟩ = some (.int .i64 regs) ∧ W.cell? ⟨w.heap.size + 1, 2, none⟩ = some (.slice (some ⟨b1, o1, none⟩) blocks.length bc) ∧ W.cell? ⟨w.heap.size + 1 + 1, 0, none⟩ = some (.slice (some ⟨b3, o3, none⟩) phis.length pc) ∧ W.cell? ⟨b3, o3 + i * 2, none⟩ = some (.int .i64 ft) ∧ W.cell? ⟨b3, o3 + i * 2 + 1, none⟩ = some (.slice aa args.length ac))) (by kernel_rfl) ⟨k0, k1, k2, m0, p0, p1⟩ (fun hHeld => ?_)
                            refine wpAnyH_take (i := 0) (oi := ⟨some 98, _, _, _, _, _⟩) (v := ?_) rfl (by kernel_rfl) (by kernel_rfl) (by kernel_rfl) (fun _ _ _ h => h) (Or.inl ⟨by rfl, ?_⟩) (by assumption) ?_
                            rotate_left
                            · (intro w hSw; (try dsimp only at hSw); go_simp; all_goals (try with_reducible rfl))
                            (try simp only [Act.put, List.setIfInBounds_toArray, List.set_cons_zero, List.set_cons_succ])
                            refine wpAnyH_take (i := 1) (oi := ⟨some 99, _, _, _, _, _⟩) (v := ?_) rfl (by kernel_rfl) (by kernel_rfl) (by kernel_rfl) (fun _ _ _ h => h) (Or.inl ⟨by rfl, ?_⟩) (by assumption) ?_
                            rotate_left
                            · (intro w hSw; (try dsimp only at hSw); go_simp; all_goals (try with_reducible rfl))
                            (try simp only [Act.put, List.setIfInBounds_toArray, List.set_cons_zero, List.set_cons_succ])
                            refine wpAnyH_take (i := 2) (oi := ⟨some 100, _, _, _, _, _⟩) (v := ?_) rfl (by kernel_rfl) (by kernel_rfl) (by kernel_rfl) (fun _ _ _ h => h) (Or.inl ⟨by rfl, ?_⟩) (by assumption) ?_
                            rotate_left
                            · (intro w hSw; (try dsimp only at hSw); go_simp; all_goals (try with_reducible rfl))
                            (try simp only [Act.put, List.setIfInBounds_toArray, List.set_cons_zero, List.set_cons_succ])
                            refine wpAnyH_take (i := 3) (oi := ⟨some 101, _, _, _, _, _⟩) (v := ?_) rfl (by kernel_rfl) (by kernel_rfl) (by kernel_rfl) (fun _ _ _ h => h) (Or.inl ⟨by rfl, ?_⟩) (by assumption) ?_
                            rotate_left
                            · (intro w hSw; (try dsimp only at hSw); go_simp; all_goals (try with_reducible rfl))
                            (try simp only [Act.put, List.setIfInBounds_toArray, List.set_cons_zero, List.set_cons_succ])
                            refine wpAnyH_take (i := 4) (oi := ⟨some 102, _, _, _, _, _⟩) (v := ?_) rfl (by kernel_rfl) (by kernel_rfl) (by kernel_rfl) (fun _ _ _ h => h) (Or.inl ⟨by rfl, ?_⟩) (by assumption) ?_
                            rotate_left
                            · (intro w hSw; (try dsimp only at hSw); go_simp; all_goals (try with_reducible rfl))
                            (try simp only [Act.put, List.setIfInBounds_toArray, List.set_cons_zero, List.set_cons_succ])
                            refine wpAnyH_take (i := 5) (oi := ⟨some 103, _, _, _, _, _⟩) (v := ?_) rfl (by kernel_rfl) (by kernel_rfl) (by kernel_rfl) (fun _ _ _ h => h) (Or.inl ⟨by rfl, ?_⟩) (by assumption) ?_
                            rotate_left
                            · (intro w hSw; (try dsimp only at hSw); go_simp; all_goals (try with_reducible rfl))
                            (try simp only [Act.put, List.setIfInBounds_toArray, List.set_cons_zero, List.set_cons_succ])
                            refine wpAnyH_take (i := 6) (oi := ⟨some 104, _, _, _, _, _⟩) (v := ?_) rfl (by kernel_rfl) (by kernel_rfl) (by kernel_rfl) (fun _ _ _ h => h) (Or.inl ⟨by rfl, ?_⟩) (by assumption) ?_
                            rotate_left
                            · (intro w hSw; (try dsimp only at hSw); go_simp; all_goals (try with_reducible rfl))
                            (try simp only [Act.put, List.setIfInBounds_toArray, List.set_cons_zero, List.set_cons_succ])
                            refine wpAnyH_take (i := 7) (oi := ⟨some 105, _, _, _, _, _⟩) (v := ?_) rfl (by kernel_rfl) (by kernel_rfl) (by kernel_rfl) (fun _ _ _ h => h) (Or.inl ⟨by rfl, ?_⟩) (by assumption) ?_
                            rotate_left
                            · (intro w hSw; (try dsimp only at hSw); go_simp; all_goals (try with_reducible rfl))
                            (try simp only [Act.put, List.setIfInBounds_toArray, List.set_cons_zero, List.set_cons_succ])
                            refine wpAnyH_take (i := 8) (oi := ⟨some 106, _, _, _, _, _⟩) (v := ?_) rfl (by kernel_rfl) (by kernel_rfl) (by kernel_rfl) (fun _ _ _ h => h) (Or.inl ⟨by rfl, ?_⟩) (by assumption) ?_
                            rotate_left
                            · (intro w hSw; (try dsimp only at hSw); go_simp; all_goals (try with_reducible rfl))
                            (try simp only [Act.put, List.setIfInBounds_toArray, List.set_cons_zero, List.set_cons_succ])
                            refine wpAnyH_take (i := 9) (oi := ⟨some 107, _, _, _, _, _⟩) (v := ?_) rfl (by kernel_rfl) (by kernel_rfl) (by kernel_rfl) (fun _ _ _ h => h) (Or.inl ⟨by rfl, ?_⟩) (by assumption) ?_
                            rotate_left
                            · (intro w hSw; (try dsimp only at hSw); go_simp; all_goals (try with_reducible rfl))
                            (try simp only [Act.put, List.setIfInBounds_toArray, List.set_cons_zero, List.set_cons_succ])
                            refine wpAnyH_take (i := 10) (oi := ⟨some 108, _, _, _, _, _⟩) (v := ?_) rfl (by kernel_rfl) (by kernel_rfl) (by kernel_rfl) (fun _ _ _ h => h) (Or.inl ⟨by rfl, ?_⟩) (by assumption) ?_
                            rotate_left
                            · (intro w hSw; (try dsimp only at hSw); go_simp; all_goals (try with_reducible rfl))
                            (try simp only [Act.put, List.setIfInBounds_toArray, List.set_cons_zero, List.set_cons_succ])
                            refine wpAnyH_take (i := 11) (oi := ⟨some 109, _, _, _, _, _⟩) (v := ?_) rfl (by kernel_rfl) (by kernel_rfl) (by kernel_rfl) (fun _ _ _ h => h) (Or.inl ⟨by rfl, ?_⟩) (by assumption) ?_
                            rotate_left
                            · (intro w hSw; (try dsimp only at hSw); go_simp; all_goals (try with_reducible rfl))
                            (try simp only [Act.put, List.setIfInBounds_toArray, List.set_cons_zero, List.set_cons_succ])
                            refine wpAnyH_take (i := 12) (oi := ⟨some 110, _, _, _, _, _⟩) (v := ?_) rfl (by kernel_rfl) (by kernel_rfl) (by kernel_rfl) (fun _ _ _ h => h) (Or.inl ⟨by rfl, ?_⟩) (by assumption) ?_
                            rotate_left
                            · (intro w hSw; (try dsimp only at hSw); go_simp; all_goals (try with_reducible rfl))
                            (try simp only [Act.put, List.setIfInBounds_toArray, List.set_cons_zero, List.set_cons_succ])
                            refine wpAnyH_take (i := 13) (oi := ⟨some 111, _, _, _, _, _⟩) (v := ?_) rfl (by kernel_rfl) (by kernel_rfl) (by kernel_rfl) (fun _ _ _ h => h) (Or.inl ⟨by rfl, ?_⟩) (by assumption) ?_
                            rotate_left
                            · (intro w hSw; (try dsimp only at hSw); go_simp; all_goals (try with_reducible rfl))
                            (try simp only [Act.put, List.setIfInBounds_toArray, List.set_cons_zero, List.set_cons_succ])
                            refine wpAnyH_take (i := 14) (oi := ⟨some 112, _, _, _, _, _⟩) (v := ?_) rfl (by kernel_rfl) (by kernel_rfl) (by kernel_rfl) (fun _ _ _ h => h) (Or.inl ⟨by rfl, ?_⟩) (by assumption) ?_
                            rotate_left
                            · (intro w hSw; (try dsimp only at hSw); go_simp; all_goals (try with_reducible rfl))
                            (try simp only [Act.put, List.setIfInBounds_toArray, List.set_cons_zero, List.set_cons_succ])
                            refine wpAnyH_take (i := 15) (oi := ⟨some 113, _, _, _, _, _⟩) (v := ?_) rfl (by kernel_rfl) (by kernel_rfl) (by kernel_rfl) (fun _ _ _ h => h) (Or.inl ⟨by rfl, ?_⟩) (by assumption) ?_
                            rotate_left
                            · (intro w hSw; (try dsimp only at hSw); go_simp; all_goals (try with_reducible rfl))
                            (try simp only [Act.put, List.setIfInBounds_toArray, List.set_cons_zero, List.set_cons_succ])
                            refine wpAnyH_take (i := 16) (oi := ⟨some 114, _, _, _, _, _⟩) (v := ?_) rfl (by kernel_rfl) (by kernel_rfl) (by kernel_rfl) (fun _ _ _ h => h) (Or.inl ⟨by rfl, ?_⟩) (by assumption) ?_
                            rotate_left
                            · (intro w hSw; (try dsimp only at hSw); go_simp; all_goals (try with_reducible rfl))
                            (try simp only [Act.put, List.setIfInBounds_toArray, List.set_cons_zero, List.set_cons_succ])
                            refine wpAnyH_take (i := 17) (oi := ⟨some 115, _, _, _, _, _⟩) (v := ?_) rfl (by kernel_rfl) (by kernel_rfl) (by kernel_rfl) (fun _ _ _ h => h) (Or.inl ⟨by rfl, ?_⟩) (by assumption) ?_
                            rotate_left
                            · (intro w hSw; (try dsimp only at hSw); go_simp; all_goals (try with_reducible rfl))
                            (try simp only [Act.put, List.setIfInBounds_toArray, List.set_cons_zero, List.set_cons_succ])
                            refine wpAnyH_take (i := 18) (oi := ⟨some 116, _, _, _, _, _⟩) (v := ?_) rfl (by kernel_rfl) (by kernel_rfl) (by kernel_rfl) (fun _ _ _ h => h) (Or.inl ⟨by rfl, ?_⟩) (by assumption) ?_
                            rotate_left
                            · (intro w hSw; (try dsimp only at hSw); go_simp; all_goals (try with_reducible rfl))
                            (try simp only [Act.put, List.setIfInBounds_toArray, List.set_cons_zero, List.set_cons_succ])
                            refine wpAnyH_take (i := 19) (oi := ⟨some 117, _, _, _, _, _⟩) (v := ?_) rfl (by kernel_rfl) (by kernel_rfl) (by kernel_rfl) (fun _ _ _ h => h) (Or.inl ⟨by rfl, ?_⟩) (by assumption) ?_
                            rotate_left
                            · (intro w hSw; (try dsimp only at hSw); go_simp; all_goals (try with_reducible rfl))
                            (try simp only [Act.put, List.setIfInBounds_toArray, List.set_cons_zero, List.set_cons_succ])
                            refine wpAnyH_take (i := 20) (oi := ⟨some 118, _, _, _, _, _⟩) (v := ?_) rfl (by kernel_rfl) (by kernel_rfl) (by kernel_rfl) (fun _ _ _ h => h) (Or.inl ⟨by rfl, ?_⟩) (by assumption) ?_
                            rotate_left
                            · (intro w hSw; (try dsimp only at hSw); go_simp; all_goals (try with_reducible rfl))
                            (try simp only [Act.put, List.setIfInBounds_toArray, List.set_cons_zero, List.set_cons_succ])
                            refine wpAnyH_take (i := 21) (oi := ⟨some 119, _, _, _, _, _⟩) (v := ?_) rfl (by kernel_rfl) (by kernel_rfl) (by kernel_rfl) (fun _ _ _ h => h) (Or.inl ⟨by rfl, ?_⟩) (by assumption) ?_
                            rotate_left
                            · (intro w hSw; (try dsimp only at hSw); go_simp; all_goals (try with_reducible rfl))
                            (try simp only [Act.put, List.setIfInBounds_toArray, List.set_cons_zero, List.set_cons_succ])
                            refine wpAnyH_ready (rs := [22]) (by kernel_rfl) (by simp) ?_
                            refine AllReadyH.cons (o := ⟨some 120, _, _, _, _, _⟩) rfl (fun K hK => ?_) AllReadyH.nil
                            go_simp
                            (go_at_call 74; refine (HQ.out _ (below_drewN (Below.refl _ _) 1)).mono ?_; rintro e w9 ⟨rfl, hb9⟩; (have HB9 := Lib.hid (show Below wr.heap.size wr w9 from ⟨hb9.os, hb9.tape, hb9.output, hb9.size, hb9.block⟩)); clear hb9)
                            refine hK.out _ _ ⟨cell_later HB9.out k0, cell_later HB9.out k1, cell_later HB9.out k2, cell_later HB9.out m0, cell_later HB9.out p0, cell_later HB9.out p1⟩ (fun hHeld2 => ?_)
                            clear hK K hHeld
                            have hHeld := hHeld2
                            clear hHeld2
                            (try simp only [Act.put, List.setIfInBounds_toArray, List.set_cons_zero, List.set_cons_succ])
                            refine wpAnyH_take (i := 23) (oi := ⟨some 121, _, _, _, _, _⟩) (v := ?_) rfl (by kernel_rfl) (by kernel_rfl) (by kernel_rfl) (fun _ _ _ h => h) (Or.inl ⟨by rfl, ?_⟩) (by assumption) ?_
                            rotate_left
                            · (intro w hSw; (try dsimp only at hSw); go_simp; all_goals (try with_reducible rfl))
                            (try simp only [Act.put, List.setIfInBounds_toArray, List.set_cons_zero, List.set_cons_succ])
                            refine wpAnyH_take (i := 24) (oi := ⟨some 122, _, _, _, _, _⟩) (v := ?_) rfl (by kernel_rfl) (by kernel_rfl) (by kernel_rfl) (fun _ _ _ h => h) (Or.inl ⟨by rfl, ?_⟩) (by assumption) ?_
                            rotate_left
                            · (intro w hSw; (try dsimp only at hSw); go_simp; all_goals (try with_reducible rfl))
                            (try simp only [Act.put, List.setIfInBounds_toArray, List.set_cons_zero, List.set_cons_succ])
                            refine wpAnyH_take (i := 25) (oi := ⟨some 123, _, _, _, _, _⟩) (v := ?_) rfl (by kernel_rfl) (by kernel_rfl) (by kernel_rfl) (fun _ _ _ h => h) (Or.inl ⟨by rfl, ?_⟩) (by assumption) ?_
                            rotate_left
                            · (intro w hSw; (try dsimp only at hSw); go_simp; all_goals (try with_reducible rfl))
                            (try simp only [Act.put, List.setIfInBounds_toArray, List.set_cons_zero, List.set_cons_succ])
                            refine wpAnyH_take (i := 26) (oi := ⟨some 124, _, _, _, _, _⟩) (v := ?_) rfl (by kernel_rfl) (by kernel_rfl) (by kernel_rfl) (fun _ _ _ h => h) (Or.inl ⟨by rfl, ?_⟩) (by assumption) ?_
                            rotate_left
                            · (intro w hSw; (try dsimp only at hSw); go_simp; all_goals (try with_reducible rfl))
                            (try simp only [Act.put, List.setIfInBounds_toArray, List.set_cons_zero, List.set_cons_succ])
                            refine wpAnyH_take (i := 27) (oi := ⟨some 125, _, _, _, _, _⟩) (v := ?_) rfl (by kernel_rfl) (by kernel_rfl) (by kernel_rfl) (fun _ _ _ h => h) (Or.inl ⟨by rfl, ?_⟩) (by assumption) ?_
                            rotate_left
                            · (intro w hSw; (try dsimp only at hSw); go_simp; all_goals (try with_reducible rfl))
                            (try simp only [Act.put, List.setIfInBounds_toArray, List.set_cons_zero, List.set_cons_succ])
                            refine wpAnyH_take (i := 28) (oi := ⟨some 126, _, _, _, _, _⟩) (v := ?_) rfl (by kernel_rfl) (by kernel_rfl) (by kernel_rfl) (fun _ _ _ h => h) (Or.inl ⟨by rfl, ?_⟩) (by assumption) ?_
                            rotate_left
                            · (intro w hSw; (try dsimp only at hSw); go_simp; all_goals (try with_reducible rfl))
                            (try simp only [Act.put, List.setIfInBounds_toArray, List.set_cons_zero, List.set_cons_succ])
                            refine wpAnyH_take (i := 29) (oi := ⟨some 127, _, _, _, _, _⟩) (v := ?_) rfl (by kernel_rfl) (by kernel_rfl) (by kernel_rfl) (fun _ _ _ h => h) (Or.inl ⟨by rfl, ?_⟩) (by assumption) ?_
                            rotate_left
                            · (intro w hSw; (try dsimp only at hSw); go_simp; all_goals (try with_reducible rfl))
                            (try simp only [Act.put, List.setIfInBounds_toArray, List.set_cons_zero, List.set_cons_succ])
                            refine wpAnyH_take (i := 30) (oi := ⟨some 128, _, _, _, _, _⟩) (v := ?_) rfl (by kernel_rfl) (by kernel_rfl) (by kernel_rfl) (fun _ _ _ h => h) (Or.inl ⟨by rfl, ?_⟩) (by assumption) ?_
                            rotate_left
                            · (intro w hSw; (try dsimp only at hSw); go_simp; all_goals (try with_reducible rfl))
                            (try simp only [Act.put, List.setIfInBounds_toArray, List.set_cons_zero, List.set_cons_succ])
                            refine wpAnyH_take (i := 31) (oi := ⟨some 129, _, _, _, _, _⟩) (v := ?_) rfl (by kernel_rfl) (by kernel_rfl) (by kernel_rfl) (fun _ _ _ h => h) (Or.inl ⟨by rfl, ?_⟩) (by assumption) ?_
                            rotate_left
                            · (intro w hSw; (try dsimp only at hSw); go_simp; all_goals (try with_reducible rfl))
                            (try simp only [Act.put, List.setIfInBounds_toArray, List.set_cons_zero, List.set_cons_succ])
                            refine wpAnyH_take (i := 32) (oi := ⟨some 130, _, _, _, _, _⟩) (v := ?_) rfl (by kernel_rfl) (by kernel_rfl) (by kernel_rfl) (fun _ _ _ h => h) (Or.inl ⟨by rfl, ?_⟩) (by assumption) ?_
                            rotate_left
                            · (intro w hSw; (try dsimp only at hSw); go_simp; all_goals (try with_reducible rfl))
                            (try simp only [Act.put, List.setIfInBounds_toArray, List.set_cons_zero, List.set_cons_succ])
                            refine wpAnyH_take (i := 33) (oi := ⟨some 131, _, _, _, _, _⟩) (v := ?_) rfl (by kernel_rfl) (by kernel_rfl) (by kernel_rfl) (fun _ _ _ h => h) (Or.inl ⟨by rfl, ?_⟩) (by assumption) ?_
                            rotate_left
                            · (intro w hSw; (try dsimp only at hSw); go_simp; all_goals (try with_reducible rfl))
                            (try simp only [Act.put, List.setIfInBounds_toArray, List.set_cons_zero, List.set_cons_succ])
                            refine wpAnyH_take (i := 34) (oi := ⟨some 132, _, _, _, _, _⟩) (v := ?_) rfl (by kernel_rfl) (by kernel_rfl) (by kernel_rfl) (fun _ _ _ h => h) (Or.inl ⟨by rfl, ?_⟩) (by assumption) ?_
                            rotate_left
                            · (intro w hSw; (try dsimp only at hSw); go_simp; all_goals (try with_reducible rfl))
                            (try simp only [Act.put, List.setIfInBounds_toArray, List.set_cons_zero, List.set_cons_succ])
                            refine wpAnyH_ready (rs := [35]) (by kernel_rfl) (by simp) ?_
                            refine AllReadyH.cons (o := ⟨some 133, _, _, _, _, _⟩) rfl (fun K hK => ?_) AllReadyH.nil
                            go_simp
                            (go_at_call 18; refine (HW.out _).mono ?_; rintro e w10 ⟨rfl, rfl⟩)
                            refine hK.out _ _ ⟨cell_later HB9.out k0, cell_later HB9.out k1, cell_later HB9.out k2, cell_later HB9.out m0, cell_later HB9.out p0, cell_later HB9.out p1⟩ (fun hHeld2 => ?_)
                            clear hK K hHeld
                            have hHeld := hHeld2
                            clear hHeld2
                            (try simp only [Act.put, List.setIfInBounds_toArray, List.set_cons_zero, List.set_cons_succ])
                            refine wpAnyH_take (i := 36) (oi := ⟨some 134, _, _, _, _, _⟩) (v := ?_) rfl (by kernel_rfl) (by kernel_rfl) (by kernel_rfl) (fun _ _ _ h => h) (Or.inl ⟨by rfl, ?_⟩) (by assumption) ?_
                            rotate_left
                            · (intro w hSw; (try dsimp only at hSw); go_simp; all_goals (try with_reducible rfl))
                            (try simp only [Act.put, List.setIfInBounds_toArray, List.set_cons_zero, List.set_cons_succ])
                            refine wpAnyH_take (i := 37) (oi := ⟨some 135, _, _, _, _, _⟩) (v := ?_) rfl (by kernel_rfl) (by kernel_rfl) (by kernel_rfl) (fun _ _ _ h => h) (Or.inl ⟨by rfl, ?_⟩) (by assumption) ?_
                            rotate_left
                            · (intro w hSw; (try dsimp only at hSw); go_simp; all_goals (try with_reducible rfl))
                            (try simp only [Act.put, List.setIfInBounds_toArray, List.set_cons_zero, List.set_cons_succ])
                            refine wpAnyH_done (by kernel_rfl) ?_ _
                            all_goals
                              clear HQ HW
                              go_wp2
                              go_roundg (gk - 1)
                              case measure => omega
                              case rel => exact ⟨i + 1, by omega, by go_num, Lib.hid ⟨HK.out.1.trans (HB9.out.mono HK.out.1.size), HN.out⟩⟩
                  · obtain rfl : i = phis.length := by omega
                    have HA := Lib.hid (show blockB us k ⟨params, regs, blocks⟩ b ⟨phis, ins, jump, jon, nx⟩ = true by
                      have := HK.out.2
                      rw [List.take_length] at this
                      rw [HB3.out, this])
                    have HBq := Lib.hid hbq
                    clear hbq hFq
                    go_wp2
                    go_ret
                    exact ⟨ret_bool HA.out.symm, HBq.out⟩

end Go.Proofs.Ytajnldkempeheaa
