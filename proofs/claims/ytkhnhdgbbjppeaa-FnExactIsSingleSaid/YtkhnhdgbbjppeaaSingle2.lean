
/-
  IsSingle: the reference's test of a block.
-/
import Derived.Test.YtkhnhdgbbjppeaaSingle
import Derived.Test.YtkhnhdgbbjppeaaUvCode2
import Derived.StillTailTactics
namespace Go.Proofs.Ytkhnhdgbbjppeaa
open Go.RowKit

/-- What validity gives of a block's uses. -/
structure BlkOk (n : Nat) (c : CodeD) (b : Nat) (x : BlockD) : Prop where
  phi : ∀ f ∈ x.phis, f.args.length = (preds (nxs c) (b : Int)).length ∧ ∀ r ∈ f.args, 0 ≤ r ∧ r < (n : Int)
  ins : ∀ y ∈ x.ins, ∀ r ∈ y.args, 0 ≤ r ∧ r < (n : Int)
  jon : x.jump ≠ 1 → 0 ≤ x.jon ∧ x.jon < (n : Int)
theorem nxs_len (c : CodeD) : (nxs c).length = c.blocks.length := by simp [nxs]
theorem insLen_of {bs : List BlockD} {y : Nat} {x : BlockD} (h : bs[y]? = some x) : insLen bs (y : Int) = (x.ins.length : Nat) := by
  unfold insLen
  rw [Int.toNat_natCast, h]; rfl

theorem insAll_next {P : List (List Pl)} {c : CodeD} {b i : Nat} {is : List InsD} {x : InsD} (h : insAll P c b is i = true) (hx : is[i]? = some x) (hr : insRuled P c b i x = true) : insAll P c b is (i + 1) = true := by
  rw [insAll, h, hx]; simp [hr]
theorem insAll_stop {P : List (List Pl)} {c : CodeD} {b i : Nat} {is : List InsD} {x : InsD} (hx : is[i]? = some x) (hr : insRuled P c b i x = false) : ∀ {m : Nat}, i < m → insAll P c b is m = false
  | 0, h => by omega
  | m + 1, h => by
    rw [insAll]
    by_cases e : i = m
    · subst e; rw [hx]; simp [hr]
    · rw [insAll_stop hx hr (by omega), Bool.false_and]

set_option maxRecDepth 100000 in
set_option maxHeartbeats 4000000 in
theorem l13Block_any (params regs : Int) (blocks : List BlockD) (ba : Option Addr) (bc : Nat) (gs n : Nat) (L : List (Int × Pl)) (w0 : World) (ma : Option Addr) (mc b : Nat) (x : BlockD) (hx : blocks[b]? = some x) (w : World) (hrd : SliceRd 5 BlockR w ba blocks.length blocks) (hsz : szS szBlockD blocks ≤ 1048576)
    (hS : SetS gs n L w0 w) (hM : BMat w ma blocks.length (domMat (nxs ⟨params, regs, blocks⟩))) (hPl : PlIn blocks.length (setsP n L)) (hL : L.length ≤ 1048576) (hok : BlkOk n ⟨params, regs, blocks⟩ b x) (hg : Gr w ba (nxs ⟨params, regs, blocks⟩)) :
    Calls Try.prog 118 #[.agg #[.int .i64 params, .int .i64 regs, .slice ba blocks.length bc], .slice (some ⟨gs, 0, none⟩) n n, .slice ma blocks.length mc, .int .i64 (b : Int)] w fun e w' =>
      e = .returned (.bool (blockRuled (setsP n L) ⟨params, regs, blocks⟩ b x)) ∧ Below w.heap.size w w' := by
  have hgl := nxs_len ⟨params, regs, blocks⟩
  have hgl : (nxs ⟨params, regs, blocks⟩).length = blocks.length := hgl
  have hbl : blocks.length ≤ 1048576 := Nat.le_trans (szS_len szBlockD blocks) hsz
  have HQ := Lib.hid (fun (W : World) (hW : Below w.heap.size w W) (r b' i : Int) (hr : 0 ≤ r ∧ r < (n : Int)) (hb' : 0 ≤ b' ∧ b' < (blocks.length : Int)) =>
    show Calls Try.prog 156 #[.agg #[.int .i64 params, .int .i64 regs, .slice ba blocks.length bc], .slice (some ⟨gs, 0, none⟩) n n, .slice ma blocks.length mc, .int .i64 r, .int .i64 b', .int .i64 i] W (fun e w' =>
      e = .returned (.bool (ruleB (setsP n L) (nxs ⟨params, regs, blocks⟩) params r b' i)) ∧ Below W.heap.size W w') from by
    have h := l13Rules_any params regs ba bc (nxs ⟨params, regs, blocks⟩) blocks.length gs n L w0 ma mc r b' i W (hS.later hW) (by rw [hgl]; exact hM.later bRowR_lasts hW) (by rw [hgl]; exact hPl) hr (by rw [hgl]; exact hb') hL
    rwa [hgl] at h)
  have hblt : b < blocks.length := (List.getElem?_eq_some_iff.1 hx).1
  obtain ⟨b1, o1, phis, ins, jump, jon, nx, pa, pc, ia, ic, na, nc, rfl, hx2, g0, g1, g2, g3, g4, hR⟩ := block_place hrd hblt
  rw [hx] at hx2
  cases hx2
  obtain ⟨_, _, _, _, _, _, hcs, hph, hins, _⟩ := hR
  simp only [List.cons.injEq, Value.slice.injEq, and_true, true_and] at hcs
  obtain ⟨⟨rfl, rfl⟩, ⟨rfl, rfl⟩, rfl, rfl⟩ := hcs
  have hz := (szS_get (sz := szBlockD) hsz hx).1
  have hzb := szBlock_parts hz
  have hil : ins.length ≤ 1048576 := Nat.le_trans (szS_len szInsD ins) hzb.2.1
  have hpl : phis.length ≤ 1048576 := Nat.le_trans (szS_len szPhiD phis) hzb.1
  have hb1 : Below w.heap.size w (w.alloc (.cells #[.int .i64 params, .int .i64 regs, .slice (some ⟨b1, o1, none⟩) blocks.length bc] 51)) := (Below.refl _ _).alloc (Nat.le_refl _) _
  have hb2 : Below w.heap.size w ((w.alloc (.cells #[.int .i64 params, .int .i64 regs, .slice (some ⟨b1, o1, none⟩) blocks.length bc] 51)).alloc (.cells #[.slice pa phis.length pc, .slice ia ins.length ic, .int .i64 jump, .int .i64 jon, .slice na nx.length nc] 70)) := hb1.alloc (by simp) _
  have hk2 : (w.alloc (.cells #[.int .i64 params, .int .i64 regs, .slice (some ⟨b1, o1, none⟩) blocks.length bc] 51)).cell? ⟨w.heap.size, 2, none⟩ = some (.slice (some ⟨b1, o1, none⟩) blocks.length bc) := cell_of_row _ _ 2 _ _ _ (heap_alloc_new w _)
  have e0 := cell_later hb1 g0
  have e1 := cell_later hb1 g1
  have e2 := cell_later hb1 g2
  have e3 := cell_later hb1 g3
  have e4 := cell_later hb1 g4
  have hbi : (b : Int) < (blocks.length : Int) := by omega
  have HR := Lib.hid (And.intro hph.2 (And.intro hins.2 (And.intro hrd hzb)))
  have HW := Lib.hid (And.intro hb2 (And.intro (heap_alloc2_old w (.cells #[.int .i64 params, .int .i64 regs, .slice (some ⟨b1, o1, none⟩) blocks.length bc] 51) (.cells #[.slice pa phis.length pc, .slice ia ins.length ic, .int .i64 jump, .int .i64 jon, .slice na nx.length nc] 70)) (heap_alloc2_new w (.cells #[.int .i64 params, .int .i64 regs, .slice (some ⟨b1, o1, none⟩) blocks.length bc] 51) (.cells #[.slice pa phis.length pc, .slice ia ins.length ic, .int .i64 jump, .int .i64 jon, .slice na nx.length nc] 70))))
  have HOK := Lib.hid hok
  clear g0 g1 g2 g3 g4 hb1 hb2 hph hins hrd hsz hz hzb hS hM hPl hx hok
  go_enter Try.func118, Try.ntmps118
  go_upto_region 2 with fail
  clear e0 e1 e2 e3 e4 hk2
  generalize (w.alloc (.cells #[.int .i64 params, .int .i64 regs, .slice (some ⟨b1, o1, none⟩) blocks.length bc] 51)).alloc (.cells #[.slice pa phis.length pc, .slice ia ins.length ic, .int .i64 jump, .int .i64 jon, .slice na nx.length nc] 70) = W3 at HW ⊢
  have k0 : W3.cell? ⟨w.heap.size, 0, none⟩ = some (.int .i64 params) := cell_of_row _ _ 0 _ _ _ HW.out.2.1
  have k1 : W3.cell? ⟨w.heap.size, 1, none⟩ = some (.int .i64 regs) := cell_of_row _ _ 1 _ _ _ HW.out.2.1
  have k2 : W3.cell? ⟨w.heap.size, 2, none⟩ = some (.slice (some ⟨b1, o1, none⟩) blocks.length bc) := cell_of_row _ _ 2 _ _ _ HW.out.2.1
  go_wp2_with fail
  have HPR := Lib.hid (show Calls Try.prog 109 #[.agg #[.int .i64 params, .int .i64 regs, .slice (some ⟨b1, o1, none⟩) blocks.length bc], .int .i64 (b : Int)] W3 (fun e w' => RetInts W3 (preds (nxs ⟨params, regs, blocks⟩) (b : Int)) (preds (nxs ⟨params, regs, blocks⟩) (b : Int)).length e w') from by
    have h := l7Preds_any params regs (some ⟨b1, o1, none⟩) bc (nxs ⟨params, regs, blocks⟩) (b : Int) W3 (hg.later HW.out.1)
    rwa [hgl] at h)
  refine HPR.out.mono ?_
  have hpp := preds_len (nxs ⟨params, regs, blocks⟩) (b : Int)
  rw [hgl] at hpp
  have HPM := Lib.hid (fun k y (h : (preds (nxs ⟨params, regs, blocks⟩) (b : Int))[k]? = some y) => by
    obtain ⟨i, hi, _, he⟩ := filtTo_mem (show y ∈ filtTo (predB (nxs ⟨params, regs, blocks⟩) (b : Int)) (nxs ⟨params, regs, blocks⟩).length from List.mem_of_getElem? h)
    exact (⟨i, by rwa [hgl] at hi, he⟩ : ∃ i : Nat, i < blocks.length ∧ y = (i : Int)))
  have HBR := Lib.hid (show blockRuled (setsP n L) ⟨params, regs, blocks⟩ b ⟨phis, ins, jump, jon, nx⟩ = (phis.all (phiRuled (setsP n L) ⟨params, regs, blocks⟩ (preds (nxs ⟨params, regs, blocks⟩) (b : Int))) && (insAll (setsP n L) ⟨params, regs, blocks⟩ b ins ins.length && (jump == 1 || ruleB (setsP n L) (nxs ⟨params, regs, blocks⟩) params jon (b : Int) ins.length))) from rfl)
  have HPH := Lib.hid (fun f => show phiRuled (setsP n L) ⟨params, regs, blocks⟩ (preds (nxs ⟨params, regs, blocks⟩) (b : Int)) f = (List.range (preds (nxs ⟨params, regs, blocks⟩) (b : Int)).length).all (fun k => ruleB (setsP n L) (nxs ⟨params, regs, blocks⟩) params (f.args.getD k 0) ((preds (nxs ⟨params, regs, blocks⟩) (b : Int)).getD k 0) (insLen blocks ((preds (nxs ⟨params, regs, blocks⟩) (b : Int)).getD k 0))) from rfl)
  have HOP := Lib.hid (fun f (hf : f ∈ phis) => HOK.out.phi f hf)
  rintro e w1 ⟨pra, prc, rfl, hown1, hb1⟩
  generalize preds (nxs ⟨params, regs, blocks⟩) (b : Int) = ps at HPM HBR HPH HOP hpp hown1 ⊢
  have H1 := Lib.hid (And.intro (ints_of_own hown1).toIntsRd (And.intro (HW.out.1.trans (hb1.mono HW.out.1.size)) (And.intro ((hb1.block _ (Array.getElem?_eq_some_iff.1 HW.out.2.1).1).trans HW.out.2.1) ((hb1.block _ (Array.getElem?_eq_some_iff.1 HW.out.2.2).1).trans HW.out.2.2))))
  clear hown1 hb1 k0 k1 k2 HPR
  go_wp2_with fail
  go_loopg [11] phis.length (fun F i wr => ∃ j : Nat, j + F = phis.length ∧ i = .int .i64 j ∧ Hid ((phis.take j).all (phiRuled (setsP n L) ⟨params, regs, blocks⟩ ps) = true ∧ Below w1.heap.size w1 wr))
  case atStart => exact ⟨0, by omega, rfl, Lib.hid ⟨rfl, Below.refl _ _⟩⟩
  case round =>
    obtain ⟨j, hj, rfl, HK⟩ := hrel
    have hB := (HK.out.2.block _ (Array.getElem?_eq_some_iff.1 H1.out.2.2.2).1).trans H1.out.2.2.2
    have m0 : wr.cell? ⟨w.heap.size + 1, 0, none⟩ = some (.slice pa phis.length pc) := cell_of_row _ _ 0 _ _ _ hB
    clear hB
    by_cases hlt : j < phis.length
    · obtain ⟨b2, o2, ft, args, aa, ac, rfl, hxj, p0, p1, hRf⟩ := phi_place (HR.out.1.later phiR_lasts (H1.out.2.1.trans (HK.out.2.mono H1.out.2.1.size))) hlt
      obtain ⟨_, _, hcf, _, hargs⟩ := hRf
      simp only [List.cons.injEq, Value.slice.injEq, and_true, true_and] at hcf
      obtain ⟨rfl, rfl⟩ := hcf
      have hfa := HOP.out _ (List.mem_of_getElem? hxj)
      have hal : args.length = ps.length := hfa.1
      have HA := Lib.hid (And.intro hxj (And.intro hfa.2 hargs))
      have hji : (j : Int) < (phis.length : Int) := by omega
      clear hxj hfa hargs p0 p1
      go_wp2_with fail
      clear m0
      go_loopg [12] ps.length (fun F i wq => ∃ k : Nat, k + F = ps.length ∧ i = .int .i64 k ∧ Hid (((List.range ps.length).take k).all (fun k => ruleB (setsP n L) (nxs ⟨params, regs, blocks⟩) params (args.getD k 0) (ps.getD k 0) (insLen blocks (ps.getD k 0))) = true ∧ Below wr.heap.size wr wq))
      case atStart => exact ⟨0, by omega, rfl, Lib.hid ⟨rfl, Below.refl _ _⟩⟩
      case round =>
        obtain ⟨k, hk, rfl, HQ2⟩ := hrel
        by_cases hltk : k < ps.length
        · have hB1 := HK.out.2.trans (HQ2.out.2.mono HK.out.2.size)
          have hBw := H1.out.2.1.trans (hB1.mono H1.out.2.1.size)
          have hcb := (hB1.block _ (Array.getElem?_eq_some_iff.1 H1.out.2.2.1).1).trans H1.out.2.2.1
          have hbb := (hB1.block _ (Array.getElem?_eq_some_iff.1 H1.out.2.2.2).1).trans H1.out.2.2.2
          have k0 : wr.cell? ⟨w.heap.size, 0, none⟩ = some (.int .i64 params) := cell_of_row _ _ 0 _ _ _ hcb
          have k1 : wr.cell? ⟨w.heap.size, 1, none⟩ = some (.int .i64 regs) := cell_of_row _ _ 1 _ _ _ hcb
          have k2 : wr.cell? ⟨w.heap.size, 2, none⟩ = some (.slice (some ⟨b1, o1, none⟩) blocks.length bc) := cell_of_row _ _ 2 _ _ _ hcb
          have m0 : wr.cell? ⟨w.heap.size + 1, 0, none⟩ = some (.slice (some ⟨b2, o2, none⟩) phis.length pc) := cell_of_row _ _ 0 _ _ _ hbb
          obtain ⟨pb, po, y, rfl, hy, hcy⟩ := (H1.out.1.later hB1).place hltk
          obtain ⟨yn, hyn, rfl⟩ := HPM.out k y hy
          obtain ⟨b2', o2', ft', args', aa', ac', hab, hxj', p0, p1, hRf⟩ := phi_place (HR.out.1.later phiR_lasts hBw) hlt
          cases hab
          rw [HA.out.1] at hxj'
          cases hxj'
          obtain ⟨_, _, hcf, _, hargs⟩ := hRf
          simp only [List.cons.injEq, Value.slice.injEq, and_true, true_and] at hcf
          obtain ⟨rfl, rfl⟩ := hcf
          have hargs : IntsRd wr aa' args.length args := hargs
          obtain ⟨ab, ao, rr, hab2, hrr, hcr⟩ := hargs.place (i := k) (by omega)
          subst hab2
          have hrin := HA.out.2.1 rr (List.mem_of_getElem? hrr)
          obtain ⟨b3, o3, phis3, ins3, jump3, jon3, nx3, pa3, pc3, ia3, ic3, na3, nc3, hab, hx3, _, q1, _, _, _, _⟩ := block_place (HR.out.2.2.1.later blockR_lasts hBw) hyn
          cases hab
          have hyi : (yn : Int) < (blocks.length : Int) := by omega
          have hki : (k : Int) < (ps.length : Int) := by omega
          have hkai : (k : Int) < (args.length : Int) := by omega
          have HV := Lib.hid (show (fun k => ruleB (setsP n L) (nxs ⟨params, regs, blocks⟩) params (args.getD k 0) (ps.getD k 0) (insLen blocks (ps.getD k 0))) k = ruleB (setsP n L) (nxs ⟨params, regs, blocks⟩) params rr (yn : Int) (ins3.length : Nat) by
            simp only [List.getD_eq_getElem?_getD, hrr, hy, Option.getD_some]
            rw [insLen_of hx3])
          have HRG := Lib.hid (show (List.range ps.length)[k]? = some k by simp [hltk])
          have HBW := Lib.hid hBw
          clear hcb hbb hy hrr hx3 hB1 hBw hargs p0
          go_wp2_with fail
          go_still_tail 26, (by kernel_rfl)
          change wpList _ _ _ _ _ wr.drew
          have HD := Lib.hid (show Below wr.heap.size wr wr.drew from (Below.refl _ _).drew)
          clear k0 k1 k2 m0 hcy p1 hcr q1
          generalize wr.drew = wd at HD ⊢
          go_wp2_with fail
          refine (HQ.out wd (HBW.out.trans (HD.out.mono HBW.out.size)) rr (yn : Int) (ins3.length : Nat) hrin ⟨by omega, hyi⟩).mono ?_
          cases hv : ruleB (setsP n L) (nxs ⟨params, regs, blocks⟩) params rr (yn : Int) (ins3.length : Nat) with
          | true =>
            rintro e w2 ⟨rfl, hb2⟩
            have HN := Lib.hid (And.intro (all_next HQ2.out.1 HRG.out (HV.out.trans hv)) (HQ2.out.2.trans ((HD.out.trans (hb2.mono HD.out.size)).mono HQ2.out.2.size)))
            clear hb2 hv
            go_wp2
            go_roundg (gk - 1)
            case measure => omega
            case rel => exact ⟨k + 1, by omega, by go_num, HN⟩
          | false =>
            rintro e w2 ⟨rfl, hb2⟩
            have HN := Lib.hid (show blockRuled (setsP n L) ⟨params, regs, blocks⟩ b ⟨phis, ins, jump, jon, nx⟩ = false by
              rw [HBR.out, all_stop HA.out.1 (by rw [HPH.out]; exact all_stop HRG.out (HV.out.trans hv))]; rfl)
            have HBE := Lib.hid (HBW.out.trans ((HD.out.trans (hb2.mono HD.out.size)).mono HBW.out.size))
            clear hb2 hv
            go_wp2
            go_ret
            exact ⟨ret_bool HN.out.symm, HBE.out⟩
        · obtain rfl : k = ps.length := by omega
          have HN := Lib.hid (all_next HK.out.1 HA.out.1 (by
            rw [HPH.out]
            have := HQ2.out.1
            rw [List.take_of_length_le (by simp)] at this
            exact this))
          go_wp2
          go_roundg (phis.length - (j + 1))
          case measure => omega
          case rel => exact ⟨j + 1, by omega, by go_num, Lib.hid ⟨HN.out, HK.out.2.trans (HQ2.out.2.mono HK.out.2.size)⟩⟩
    · obtain rfl : j = phis.length := by omega
      have HB2 := Lib.hid (show blockRuled (setsP n L) ⟨params, regs, blocks⟩ b ⟨phis, ins, jump, jon, nx⟩ = (insAll (setsP n L) ⟨params, regs, blocks⟩ b ins ins.length && (jump == 1 || ruleB (setsP n L) (nxs ⟨params, regs, blocks⟩) params jon (b : Int) ins.length)) by
        have := HK.out.1
        rw [List.take_length] at this
        rw [HBR.out, this, Bool.true_and])
      have HC2 := Lib.hid HK.out.2
      go_wp2_with fail
      clear m0
      go_loopg [13] ins.length (fun F i wq => ∃ j : Nat, j + F = ins.length ∧ i = .int .i64 j ∧ Hid (insAll (setsP n L) ⟨params, regs, blocks⟩ b ins j = true ∧ Below w1.heap.size w1 wq))
      case atStart => exact ⟨0, by omega, rfl, Lib.hid ⟨rfl, HC2.out⟩⟩
      case round =>
        obtain ⟨j, hj, rfl, HJ⟩ := hrel
        have hbb := (HJ.out.2.block _ (Array.getElem?_eq_some_iff.1 H1.out.2.2.2).1).trans H1.out.2.2.2
        have hcb := (HJ.out.2.block _ (Array.getElem?_eq_some_iff.1 H1.out.2.2.1).1).trans H1.out.2.2.1
        have HBW := Lib.hid (H1.out.2.1.trans (HJ.out.2.mono H1.out.2.1.size))
        have m1 : wr.cell? ⟨w.heap.size + 1, 1, none⟩ = some (.slice ia ins.length ic) := cell_of_row _ _ 1 _ _ _ hbb
        by_cases hlt : j < ins.length
        · obtain ⟨b2, o2, op, tr, args, num, aa, ac, rfl, hxj, _, _, _, _, hRf⟩ := ins_place (HR.out.2.1.later insR_lasts HBW.out) hlt
          have HA := Lib.hid (And.intro hxj (HOK.out.ins _ (List.mem_of_getElem? hxj)))
          have hargl : args.length ≤ 1048576 := Nat.le_trans (szS_mem (sz := szInsD) (List.mem_of_getElem? hxj)) HR.out.2.2.2.2.1
          have hji : (j : Int) < (ins.length : Int) := by omega
          have HIR := Lib.hid (show insRuled (setsP n L) ⟨params, regs, blocks⟩ b j ⟨op, tr, args, num⟩ = args.all (fun r => ruleB (setsP n L) (nxs ⟨params, regs, blocks⟩) params r (b : Int) (j : Int)) from rfl)
          clear hxj hbb hcb hRf
          go_wp2_with fail
          clear m1
          go_loopg [14] args.length (fun F i wq => ∃ k : Nat, k + F = args.length ∧ i = .int .i64 k ∧ Hid ((args.take k).all (fun r => ruleB (setsP n L) (nxs ⟨params, regs, blocks⟩) params r (b : Int) (j : Int)) = true ∧ Below wr.heap.size wr wq))
          case atStart => exact ⟨0, by omega, rfl, Lib.hid ⟨rfl, Below.refl _ _⟩⟩
          case round =>
            obtain ⟨k, hk, rfl, HQ2⟩ := hrel
            have hB1 := HJ.out.2.trans (HQ2.out.2.mono HJ.out.2.size)
            have hBw := H1.out.2.1.trans (hB1.mono H1.out.2.1.size)
            have hcb := (hB1.block _ (Array.getElem?_eq_some_iff.1 H1.out.2.2.1).1).trans H1.out.2.2.1
            have hbb := (hB1.block _ (Array.getElem?_eq_some_iff.1 H1.out.2.2.2).1).trans H1.out.2.2.2
            have m1 : wr.cell? ⟨w.heap.size + 1, 1, none⟩ = some (.slice (some ⟨b2, o2, none⟩) ins.length ic) := cell_of_row _ _ 1 _ _ _ hbb
            obtain ⟨b2', o2', op', tr', args', num', aa', ac', hab, hxj', _, _, p2, _, hRf⟩ := ins_place (HR.out.2.1.later insR_lasts hBw) hlt
            cases hab
            rw [HA.out.1] at hxj'
            cases hxj'
            by_cases hltk : k < args.length
            · have k0 : wr.cell? ⟨w.heap.size, 0, none⟩ = some (.int .i64 params) := cell_of_row _ _ 0 _ _ _ hcb
              have k1 : wr.cell? ⟨w.heap.size, 1, none⟩ = some (.int .i64 regs) := cell_of_row _ _ 1 _ _ _ hcb
              have k2 : wr.cell? ⟨w.heap.size, 2, none⟩ = some (.slice (some ⟨b1, o1, none⟩) blocks.length bc) := cell_of_row _ _ 2 _ _ _ hcb
              obtain ⟨_, _, hcf, _, hargs⟩ := hRf
              simp only [List.cons.injEq, Value.slice.injEq, and_true, true_and] at hcf
              obtain ⟨⟨rfl, rfl⟩, _⟩ := hcf
              have hargs : IntsRd wr aa' args.length args := hargs
              obtain ⟨ab, ao, rr, hab2, hrr, hcr⟩ := hargs.place (i := k) (by omega)
              subst hab2
              have hrin := HA.out.2 rr (List.mem_of_getElem? hrr)
              have HRR := Lib.hid hrr
              have HBW2 := Lib.hid hBw
              clear hcb hbb hrr hB1 hBw hargs
              go_wp2_with fail
              go_still_tail 14, (by kernel_rfl)
              change wpList _ _ _ _ _ wr.drew
              have HD := Lib.hid (show Below wr.heap.size wr wr.drew from (Below.refl _ _).drew)
              clear k0 k1 k2 m1 p2 hcr
              generalize wr.drew = wd at HD ⊢
              go_wp2_with fail
              refine (HQ.out wd (HBW2.out.trans (HD.out.mono HBW2.out.size)) rr (b : Int) (j : Int) hrin ⟨by omega, hbi⟩).mono ?_
              cases hv : ruleB (setsP n L) (nxs ⟨params, regs, blocks⟩) params rr (b : Int) (j : Int) with
              | true =>
                rintro e w2 ⟨rfl, hb2⟩
                have HN := Lib.hid (And.intro (all_next HQ2.out.1 HRR.out hv) (HQ2.out.2.trans ((HD.out.trans (hb2.mono HD.out.size)).mono HQ2.out.2.size)))
                clear hb2 hv
                go_wp2
                go_roundg (gk - 1)
                case measure => omega
                case rel => exact ⟨k + 1, by omega, by go_num, HN⟩
              | false =>
                rintro e w2 ⟨rfl, hb2⟩
                have HN := Lib.hid (show blockRuled (setsP n L) ⟨params, regs, blocks⟩ b ⟨phis, ins, jump, jon, nx⟩ = false by
                  rw [HB2.out, insAll_stop HA.out.1 (by rw [HIR.out]; exact all_stop HRR.out hv) hlt]; rfl)
                have HBE := Lib.hid (HBW2.out.trans ((HD.out.trans (hb2.mono HD.out.size)).mono HBW2.out.size))
                clear hb2 hv
                go_wp2
                go_ret
                exact ⟨ret_bool HN.out.symm, HBE.out⟩
            · obtain rfl : k = args.length := by omega
              have HN := Lib.hid (insAll_next HJ.out.1 HA.out.1 (by
                rw [HIR.out]
                have := HQ2.out.1
                rwa [List.take_length] at this))
              have HB3 := Lib.hid hB1
              clear hcb hbb hB1 hBw hRf
              go_wp2
              go_roundg (ins.length - (j + 1))
              case measure => omega
              case rel => exact ⟨j + 1, by omega, by go_num, Lib.hid ⟨HN.out, HB3.out⟩⟩
        · obtain rfl : j = ins.length := by omega
          have k0 : wr.cell? ⟨w.heap.size, 0, none⟩ = some (.int .i64 params) := cell_of_row _ _ 0 _ _ _ hcb
          have k1 : wr.cell? ⟨w.heap.size, 1, none⟩ = some (.int .i64 regs) := cell_of_row _ _ 1 _ _ _ hcb
          have k2 : wr.cell? ⟨w.heap.size, 2, none⟩ = some (.slice (some ⟨b1, o1, none⟩) blocks.length bc) := cell_of_row _ _ 2 _ _ _ hcb
          have m2 : wr.cell? ⟨w.heap.size + 1, 2, none⟩ = some (.int .i64 jump) := cell_of_row _ _ 2 _ _ _ hbb
          have m3 : wr.cell? ⟨w.heap.size + 1, 3, none⟩ = some (.int .i64 jon) := cell_of_row _ _ 3 _ _ _ hbb
          have HB4 := Lib.hid (show blockRuled (setsP n L) ⟨params, regs, blocks⟩ b ⟨phis, ins, jump, jon, nx⟩ = (jump == 1 || ruleB (setsP n L) (nxs ⟨params, regs, blocks⟩) params jon (b : Int) ins.length) by
            rw [HB2.out, HJ.out.1, Bool.true_and])
          clear hcb hbb
          by_cases hj1 : jump = 1
          · have he : (jump == 1) = true := by simpa using hj1
            have HN := Lib.hid (show blockRuled (setsP n L) ⟨params, regs, blocks⟩ b ⟨phis, ins, jump, jon, nx⟩ = true by rw [HB4.out, he]; rfl)
            clear hj1
            go_wp2
            go_ret
            exact ⟨ret_bool HN.out.symm, HBW.out⟩
          · have he : (jump == 1) = false := by simpa using hj1
            have HN := Lib.hid (show blockRuled (setsP n L) ⟨params, regs, blocks⟩ b ⟨phis, ins, jump, jon, nx⟩ = ruleB (setsP n L) (nxs ⟨params, regs, blocks⟩) params jon (b : Int) ins.length by rw [HB4.out, he]; rfl)
            have HJN := Lib.hid (HOK.out.jon hj1)
            clear hj1
            go_wp2_with fail
            refine (HQ.out wr HBW.out jon (b : Int) (ins.length : Nat) HJN.out ⟨by omega, hbi⟩).mono ?_
            rintro e w2 ⟨rfl, hb2⟩
            have HBE := Lib.hid (HBW.out.trans (hb2.mono HBW.out.size))
            clear hb2
            go_wp2
            go_ret
            exact ⟨ret_bool HN.out.symm, HBE.out⟩

end Go.Proofs.Ytkhnhdgbbjppeaa
