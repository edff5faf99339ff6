/-
  The program's test of a code: the walk.
-/
import Derived.Test.YtajnldkempeheaaUvCode
import Derived.Deep.DeepCutAuto

namespace Go.Proofs.Ytajnldkempeheaa
open Go.RowKit

theorem codeB_stop {us : List CodeD} {k b : Nat} {c : CodeD} {x : BlockD} (hC : codeB us k c = allTo (fun b => (c.blocks[b]?).all (blockB us k c b)) c.blocks.length) (hx : c.blocks[b]? = some x) (hf : blockB us k c b x = false) : codeB us k c = false := by
  rw [hC]
  exact allTo_false (i := b) (by rw [hx]; exact hf) (List.getElem?_eq_some_iff.1 hx).1
theorem allTo_next {us : List CodeD} {k b : Nat} {c : CodeD} {x : BlockD} (h : allTo (fun b => (c.blocks[b]?).all (blockB us k c b)) b = true) (hx : c.blocks[b]? = some x) (hf : blockB us k c b x = true) : allTo (fun b => (c.blocks[b]?).all (blockB us k c b)) (b + 1) = true := by
  rw [allTo, h, hx]
  simpa using hf

theorem all_stop {α : Type} {p : α → Bool} {xs : List α} {i : Nat} {x : α} (hx : xs[i]? = some x) (hf : p x = false) : xs.all p = false := by
  cases h : xs.all p with
  | false => rfl
  | true => rw [List.all_eq_true.1 h x (List.mem_of_getElem? hx)] at hf; cases hf
theorem all_next {α : Type} {p : α → Bool} {xs : List α} {i : Nat} {x : α} (h : (xs.take i).all p = true) (hx : xs[i]? = some x) (hf : p x = true) : (xs.take (i + 1)).all p = true := by
  rw [take_succ_of hx, List.all_append, h]
  simpa using hf

set_option maxRecDepth 100000 in
set_option maxHeartbeats 8000000 in
theorem codeOk_any (us : List CodeD) (ua : Option Addr) (uc k : Nat) (c : CodeD) (hk : us[k]? = some c) (hsz : szS szCodeD us ≤ 1048576) (w : World) (hU : SliceRd 3 CodeR w ua us.length us) :
    Calls Try.prog 40 #[.agg #[.slice ua us.length uc], .int .i64 k] w fun e w' => e = .returned (.bool (codeB us k c)) ∧ Below w.heap.size w w' := by
  have hmf : ∀ (fn : Fn) (first cap : Array Value) (w : World), (Instr.makeFunc fn first cap).run Try.prog w = .ok (.func fn first cap) w := fun _ _ _ _ => rfl
  have hkl : k < us.length := (List.getElem?_eq_some_iff.1 hk).1
  obtain ⟨ub, uo, params, regs, blocks, ba, bc, rfl, hk2, c0, c1, c2, hCR⟩ := code_place hU hkl
  rw [hk] at hk2
  cases hk2
  have hzc := szS_get hsz hk
  have hn := hzc.2
  have hbl : blocks.length ≤ 1048576 := by have := hzc.1; unfold szCodeD at this; exact Nat.le_trans (szS_len _ _) this
  have hb2 : Below w.heap.size w ((w.alloc (.cells #[.slice (some ⟨ub, uo, none⟩) us.length uc] 25)).alloc (.cells #[.int .i64 (k : Int)] 3)) := ((Below.refl _ _).alloc (Nat.le_refl _) _).alloc (by simp) _
  have d0 := cell_later hb2 c0
  have d1 := cell_later hb2 c1
  have d2 := cell_later hb2 c2
  have HF := Lib.hid (four_blocks w (.cells #[.slice (some ⟨ub, uo, none⟩) us.length uc] 25) (.cells #[.int .i64 (k : Int)] 3) (.cells #[.int .i64 params, .int .i64 regs, .slice ba blocks.length bc] 37)
    (.cells #[.func (.func 59) #[] #[.pointer (some ⟨w.heap.size + 1 + 1, 0, none⟩)]] 87))
  have hsf : (store ⟨w.heap.size + 1 + 1 + 1, 0, none⟩ (.func (.func 59) #[] #[.pointer (some ⟨w.heap.size + 1 + 1, 0, none⟩)])).run Try.prog ((((w.alloc (.cells #[.slice (some ⟨ub, uo, none⟩) us.length uc] 25)).alloc (.cells #[.int .i64 (k : Int)] 3)).alloc (.cells #[.int .i64 params, .int .i64 regs, .slice ba blocks.length bc] 37)).alloc (.cells #[.nilFunc] 87)) = .ok () ((((w.alloc (.cells #[.slice (some ⟨ub, uo, none⟩) us.length uc] 25)).alloc (.cells #[.int .i64 (k : Int)] 3)).alloc (.cells #[.int .i64 params, .int .i64 regs, .slice ba blocks.length bc] 37)).alloc (.cells #[.func (.func 59) #[] #[.pointer (some ⟨w.heap.size + 1 + 1, 0, none⟩)]] 87)) := store_new _ _ _ _ _ (by simp) rfl
  have HT := Lib.hid (three_blocks w (.cells #[.slice (some ⟨ub, uo, none⟩) us.length uc] 25) (.cells #[.int .i64 (k : Int)] 3) (.cells #[.int .i64 params, .int .i64 regs, .slice ba blocks.length bc] 37))
  have hrd : SliceRd 5 BlockR w ba blocks.length blocks := by
    obtain ⟨_, _, hcs, _, h⟩ := hCR
    simp only [List.cons.injEq, Value.slice.injEq, and_true, true_and] at hcs
    obtain ⟨rfl, rfl⟩ := hcs
    exact h
  have HC := Lib.hid (And.intro hU (And.intro hk (And.intro hzc.1 (And.intro hCR hrd))))
  clear hU hk hsz hzc hCR hrd c0 c1 c2 hb2
  go_enter Try.func40, Try.ntmps40
  go_upto_region 2 with fail
  clear d0 d1 d2
  generalize (((w.alloc (.cells #[.slice (some ⟨ub, uo, none⟩) us.length uc] 25)).alloc (.cells #[.int .i64 (k : Int)] 3)).alloc (.cells #[.int .i64 params, .int .i64 regs, .slice ba blocks.length bc] 37)) = W3 at HF HT hsf ⊢
  have ht := HT.out
  have e0 : W3.cell? ⟨w.heap.size + 1 + 1, 0, none⟩ = some (.int .i64 params) := cell_of_row _ _ 0 _ _ _ ht.1.3
  have e1 : W3.cell? ⟨w.heap.size + 1 + 1, 1, none⟩ = some (.int .i64 regs) := cell_of_row _ _ 1 _ _ _ ht.1.3
  have e2 : W3.cell? ⟨w.heap.size + 1 + 1, 2, none⟩ = some (.slice ba blocks.length bc) := cell_of_row _ _ 2 _ _ _ ht.1.3
  have hs3 : W3.heap.size = w.heap.size + 1 + 1 + 1 := ht.2.1
  clear ht
  go_cut [36] (fun v wx => v = .bool (!limsB ⟨params, regs, blocks⟩) ∧ wx = W3)
  case first =>
    clear hsf
    go_wp2_with fail
    cases h1 : (decide (0 ≤ regs) && decide (regs ≤ 300)) with
    | false =>
      have HI := Lib.hid (show limsB ⟨params, regs, blocks⟩ = false by simp only [limsB, h1, Bool.false_and])
      refine (within_is h1 _).mono ?_
      rintro e w1 ⟨rfl, rfl⟩
      go_wp2
      go_meet
      exact ⟨by rw [HI.out]; rfl, rfl⟩
    | true =>
      have H1 := Lib.hid h1
      refine (within_is h1 _).mono ?_
      clear h1
      rintro e w1 ⟨rfl, rfl⟩
      have hmin : min 3 regs = if 3 ≤ regs then 3 else regs := rfl
      have HM : Hid (limsB ⟨params, regs, blocks⟩ = ((decide (0 ≤ params) && decide (params ≤ if 3 ≤ regs then 3 else regs)) && (decide (1 ≤ (blocks.length : Int)) && decide ((blocks.length : Int) ≤ 160)))) := Lib.hid (by rw [← hmin]; simp only [limsB, H1.out, Bool.true_and])
      clear hmin
      by_cases h3 : 3 ≤ regs
      · have HM2 := Lib.hid (show limsB ⟨params, regs, blocks⟩ = ((decide (0 ≤ params) && decide (params ≤ 3)) && (decide (1 ≤ (blocks.length : Int)) && decide ((blocks.length : Int) ≤ 160))) by rw [HM.out, if_pos h3])
        go_wp2_with fail
        cases h2 : (decide (0 ≤ params) && decide (params ≤ 3)) with
        | false =>
          have HI := Lib.hid (show limsB ⟨params, regs, blocks⟩ = false by rw [HM2.out, h2, Bool.false_and])
          refine (within_is h2 _).mono ?_
          rintro e w2 ⟨rfl, rfl⟩
          go_wp2
          go_meet
          exact ⟨by rw [HI.out]; rfl, rfl⟩
        | true =>
          have HI := Lib.hid (show limsB ⟨params, regs, blocks⟩ = (decide (1 ≤ (blocks.length : Int)) && decide ((blocks.length : Int) ≤ 160)) by rw [HM2.out, h2, Bool.true_and])
          refine (within_is h2 _).mono ?_
          clear h2
          rintro e w2 ⟨rfl, rfl⟩
          go_wp2_with fail
          refine (within_is rfl _).mono ?_
          rintro e w3 ⟨rfl, rfl⟩
          go_wp2
          go_meet
          exact ⟨by rw [HI.out, Bool.not_and], rfl⟩
      · have HM2 := Lib.hid (show limsB ⟨params, regs, blocks⟩ = ((decide (0 ≤ params) && decide (params ≤ regs)) && (decide (1 ≤ (blocks.length : Int)) && decide ((blocks.length : Int) ≤ 160))) by rw [HM.out, if_neg h3])
        have h3' : regs < 3 := by omega
        go_wp2_with fail
        cases h2 : (decide (0 ≤ params) && decide (params ≤ regs)) with
        | false =>
          have HI := Lib.hid (show limsB ⟨params, regs, blocks⟩ = false by rw [HM2.out, h2, Bool.false_and])
          refine (within_is h2 _).mono ?_
          rintro e w2 ⟨rfl, rfl⟩
          go_wp2
          go_meet
          exact ⟨by rw [HI.out]; rfl, rfl⟩
        | true =>
          have HI := Lib.hid (show limsB ⟨params, regs, blocks⟩ = (decide (1 ≤ (blocks.length : Int)) && decide ((blocks.length : Int) ≤ 160)) by rw [HM2.out, h2, Bool.true_and])
          refine (within_is h2 _).mono ?_
          clear h2
          rintro e w2 ⟨rfl, rfl⟩
          go_wp2_with fail
          refine (within_is rfl _).mono ?_
          rintro e w3 ⟨rfl, rfl⟩
          go_wp2
          go_meet
          exact ⟨by rw [HI.out, Bool.not_and], rfl⟩
  case rest =>
    obtain ⟨rfl, rfl⟩ := hcut
    cases hL : limsB ⟨params, regs, blocks⟩ with
    | false =>
      have HI := Lib.hid (show codeB us k ⟨params, regs, blocks⟩ = false by rw [codeB, hL, Bool.false_and])
      clear hL
      go_wp2
      go_ret
      exact ⟨ret_bool HI.out.symm, HT.out.2.2⟩
    | true =>
      have HI := Lib.hid (show codeB us k ⟨params, regs, blocks⟩ = allTo (fun b => (blocks[b]?).all (blockB us k ⟨params, regs, blocks⟩ b)) blocks.length by rw [codeB, hL, Bool.true_and])
      have hlim : (0 ≤ regs ∧ regs ≤ 300) ∧ blocks.length ≤ 160 := by
        simp [limsB] at hL
        omega
      clear hL
      go_upto_region 5 with fail
      generalize wc.alloc (.cells #[.func (.func 59) #[] #[.pointer (some ⟨w.heap.size + 1 + 1, 0, none⟩)]] 87) = W4 at HF ⊢
      clear e0 e1 e2 hsf hs3 HT
      have ht := HF.out
      have e2 : W4.cell? ⟨w.heap.size + 1 + 1, 2, none⟩ = some (.slice ba blocks.length bc) := cell_of_row _ _ 2 _ _ _ ht.1.c
      go_wp2_with fail
      clear e2 ht
      go_loopg [41] blocks.length (fun F i wr => ∃ b : Nat, b + F = blocks.length ∧ i = .int .i64 b ∧ Hid ((Four w.heap.size (.cells #[.slice (some ⟨ub, uo, none⟩) us.length uc] 25) (.cells #[.int .i64 (k : Int)] 3) (.cells #[.int .i64 params, .int .i64 regs, .slice ba blocks.length bc] 37)
        (.cells #[.func (.func 59) #[] #[.pointer (some ⟨w.heap.size + 1 + 1, 0, none⟩)]] 87) wr ∧ Below w.heap.size w wr) ∧ allTo (fun b => (blocks[b]?).all (blockB us k ⟨params, regs, blocks⟩ b)) b = true))
      case atStart => exact ⟨0, by omega, rfl, Lib.hid ⟨HF.out, rfl⟩⟩
      case round =>
        obtain ⟨b, hb, rfl, HK⟩ := hrel
        clear HF
        by_cases hlt : b < blocks.length
        · obtain ⟨b1, o1, phis, ins, jump, jon, nx, pa, pc, ia, ic, na, nc, rfl, hx, c0, c1, c2, c3, c4, hR⟩ := block_place (HC.out.2.2.2.2.later blockR_lasts HK.out.1.2) hlt
          have hz := szS_get (sz := szBlockD) HC.out.2.2.1 hx
          have hzb := szBlock_parts hz.1
          have hba : Below wr.heap.size wr (wr.alloc (.cells #[.slice pa phis.length pc, .slice ia ins.length ic, .int .i64 jump, .int .i64 jon, .slice na nx.length nc] 41)) := (Below.refl _ _).alloc (Nat.le_refl _) _
          have hbl0 := heap_alloc_new wr (.cells #[.slice pa phis.length pc, .slice ia ins.length ic, .int .i64 jump, .int .i64 jon, .slice na nx.length nc] 41)
          obtain ⟨_, _, _, _, _, _, hcs, hph, hins, ⟨_, hnx⟩⟩ := hR
          simp only [List.cons.injEq, Value.slice.injEq, and_true, true_and] at hcs
          obtain ⟨⟨rfl, rfl⟩, ⟨rfl, rfl⟩, rfl, rfl⟩ := hcs
          have HR := Lib.hid (And.intro (hph.2.later phiR_lasts hba) (And.intro (hins.2.later insR_lasts hba) (hnx.later hba)))
          have HZ := Lib.hid (And.intro hx hzb)
          have hnl := hzb.2.2
          clear hx hz hzb hph hins hnx
          have HE := Lib.hid (And.intro (HK.out.1.1.later hba) (And.intro (HK.out.1.2.trans (hba.mono HK.out.1.2.size)) hbl0))
          clear hba hbl0
          go_upto_region 8 with fail
          clear c0 c1 c2 c3 c4
          generalize wr.alloc (.cells #[.slice pa phis.length pc, .slice ia ins.length ic, .int .i64 jump, .int .i64 jon, .slice na nx.length nc] 41) = W5 at HR HE ⊢
          have he := HE.out
          have m0 : W5.cell? ⟨wr.heap.size, 0, none⟩ = some (.slice pa phis.length pc) := cell_of_row _ _ 0 _ _ _ he.2.2
          have m1 : W5.cell? ⟨wr.heap.size, 1, none⟩ = some (.slice ia ins.length ic) := cell_of_row _ _ 1 _ _ _ he.2.2
          have m2 : W5.cell? ⟨wr.heap.size, 2, none⟩ = some (.int .i64 jump) := cell_of_row _ _ 2 _ _ _ he.2.2
          have m3 : W5.cell? ⟨wr.heap.size, 3, none⟩ = some (.int .i64 jon) := cell_of_row _ _ 3 _ _ _ he.2.2
          have m4 : W5.cell? ⟨wr.heap.size, 4, none⟩ = some (.slice na nx.length nc) := cell_of_row _ _ 4 _ _ _ he.2.2
          have f0 : W5.cell? ⟨w.heap.size + 1 + 1 + 1, 0, none⟩ = some (.func (.func 59) #[] #[.pointer (some ⟨w.heap.size + 1 + 1, 0, none⟩)]) := cell_of_row _ _ 0 _ _ _ he.1.d
          have r1 : W5.cell? ⟨w.heap.size + 1 + 1, 1, none⟩ = some (.int .i64 regs) := cell_of_row _ _ 1 _ _ _ he.1.c
          clear he
          have HJ := Lib.hid (show jumpB regs ⟨phis, ins, jump, jon, nx⟩ = (!((nx.length : Int) != nextN jump) && (if usesJ jump then inR regs jon else !(jon != 0))) from rfl)
          have HR1 := Lib.hid (fun q => codeOk1_any jon regs _ (W5.drewN q) hlim.1 (cell_later (below_drewN (Below.refl _ _) q) r1))
          go_cut [75] (fun v wx => v = .bool (!jumpB regs ⟨phis, ins, jump, jon, nx⟩) ∧ Hid (∃ q, wx = W5.drewN q))
          case first =>
            have hen : ∀ v W, (callFunc 59 (#[v] ++ #[.pointer (some ⟨w.heap.size + 1 + 1, 0, none⟩)])).run Try.prog W = .ok (.enter 59 (#[v] ++ #[.pointer (some ⟨w.heap.size + 1 + 1, 0, none⟩)])) W := fun _ _ => rfl
            cases hv1 : ((nx.length : Int) != nextN jump) with
            | true =>
              have HJ2 := Lib.hid (show jumpB regs ⟨phis, ins, jump, jon, nx⟩ = false by rw [HJ.out, hv1]; rfl)
              go_quiet (exact Calls.quiet_of_same (nextCount_any _ _))
              go_wp2_with fail
              go_meet
              exact ⟨by rw [HJ2.out]; rfl, Lib.hid ⟨_, rfl⟩⟩
            | false =>
              have HJ2 := Lib.hid (show jumpB regs ⟨phis, ins, jump, jon, nx⟩ = (if usesJ jump then inR regs jon else !(jon != 0)) by rw [HJ.out, hv1]; rfl)
              cases hu : usesJ jump with
              | true =>
                have HU := Lib.hid (fun W => (hu ▸ usesOn_any jump W : Calls Try.prog 61 #[.int .i64 jump] W fun e w' => e = .returned (.bool true) ∧ w' = W))
                cases hin : inR regs jon with
                | true =>
                  have HJ3 := Lib.hid (show jumpB regs ⟨phis, ins, jump, jon, nx⟩ = true by rw [HJ2.out, hu, if_pos rfl, hin])
                  rw [hin] at HR1
                  clear hu hin
                  go_quiet (first | exact Calls.quiet_of_same (nextCount_any _ _) | exact Calls.quiet_of_same (HU.out _) | exact Calls.quiet_of_same (HR1.out _))
                  go_wp2_with fail
                  go_meet
                  exact ⟨by rw [HJ3.out]; rfl, Lib.hid ⟨_, rfl⟩⟩
                | false =>
                  have HJ3 := Lib.hid (show jumpB regs ⟨phis, ins, jump, jon, nx⟩ = false by rw [HJ2.out, hu, if_pos rfl, hin])
                  rw [hin] at HR1
                  clear hu hin
                  go_quiet (first | exact Calls.quiet_of_same (nextCount_any _ _) | exact Calls.quiet_of_same (HU.out _) | exact Calls.quiet_of_same (HR1.out _))
                  go_wp2_with fail
                  go_meet
                  exact ⟨by rw [HJ3.out]; rfl, Lib.hid ⟨_, rfl⟩⟩
              | false =>
                have HU := Lib.hid (fun W => (hu ▸ usesOn_any jump W : Calls Try.prog 61 #[.int .i64 jump] W fun e w' => e = .returned (.bool false) ∧ w' = W))
                have HJ3 := Lib.hid (show jumpB regs ⟨phis, ins, jump, jon, nx⟩ = !(jon != 0) by rw [HJ2.out, hu, if_neg (by simp)])
                clear hu
                go_quiet (first | exact Calls.quiet_of_same (nextCount_any _ _) | exact Calls.quiet_of_same (HU.out _))
                go_wp2_with fail
                go_meet
                exact ⟨by rw [HJ3.out, Bool.not_not], Lib.hid ⟨_, rfl⟩⟩
          case rest =>
            obtain ⟨rfl, HQ⟩ := hcut
            clear HR1
            have hb56 : Below W5.heap.size W5 wc := by
              obtain ⟨q, rfl⟩ := HQ.out
              exact below_drewN (Below.refl _ _) q
            clear HQ
            have n0 := cell_later hb56 m0
            have n1 := cell_later hb56 m1
            have n4 := cell_later hb56 m4
            have g0 := cell_later hb56 f0
            have HE5 := Lib.hid (And.intro (HE.out.1.later hb56) (And.intro (HE.out.2.1.trans (hb56.mono HE.out.2.1.size)) ((hb56.block _ (Array.getElem?_eq_some_iff.1 HE.out.2.2).1).trans HE.out.2.2)))
            have HR5 := Lib.hid (And.intro (HR.out.1.later phiR_lasts hb56) (And.intro (HR.out.2.1.later insR_lasts hb56) (HR.out.2.2.later hb56)))
            clear m0 m1 m2 m3 m4 f0 r1 HE HR hb56 HJ
            cases hj : jumpB regs ⟨phis, ins, jump, jon, nx⟩ with
            | false =>
              have HN := Lib.hid (codeB_stop HI.out HZ.out.1 (by rw [blockB, hj, Bool.false_and, Bool.false_and, Bool.false_and]))
              clear hj
              go_wp2
              go_ret
              exact ⟨ret_bool HN.out.symm, HE5.out.2.1⟩
            | true =>
              have HJ := Lib.hid (show blockB us k ⟨params, regs, blocks⟩ b ⟨phis, ins, jump, jon, nx⟩ = (!nx.any (fun y => !inB blocks.length y) && !ins.any (fun i => !insB us k regs i) && phis.all (phiB regs b (preds (nxs ⟨params, regs, blocks⟩) (b : Int)).length)) by rw [blockB, hj, Bool.true_and])
              clear hj
              go_wp2_with fail
              refine (containsInts_any 62 #[.pointer (some ⟨w.heap.size + 1 + 1, 0, none⟩)] (fun y => !inB blocks.length y) na nx.length nc nx wc HR5.out.2.2 ⟨fun v W => rfl, fun y hy W hW => ?_⟩ (by omega)).mono ?_
              · refine (codeOk2_any y _ blocks.length _ bc W hbl (cell_of_row _ _ 2 _ _ _ (HE5.out.1.later hW).c)).mono ?_
                rintro e w2 ⟨rfl, rfl⟩
                exact ⟨rfl, Below.refl _ _⟩
              rintro e w6 ⟨rfl, hb6⟩
              have p0 := cell_later hb6 n0
              have p1 := cell_later hb6 n1
              have h0 := cell_later hb6 g0
              have HE6 := Lib.hid (And.intro (HE5.out.1.later hb6) (And.intro (HE5.out.2.1.trans (hb6.mono HE5.out.2.1.size)) ((hb6.block _ (Array.getElem?_eq_some_iff.1 HE5.out.2.2).1).trans HE5.out.2.2)))
              have HR6 := Lib.hid (And.intro (HR5.out.1.later phiR_lasts hb6) (HR5.out.2.1.later insR_lasts hb6))
              clear n0 n1 n4 g0 HE5 HR5 hb6
              cases hva : nx.any (fun y => !inB blocks.length y) with
              | true =>
                have HN := Lib.hid (codeB_stop HI.out HZ.out.1 (by rw [HJ.out, hva]; rfl))
                clear hva
                go_wp2
                go_ret
                exact ⟨ret_bool HN.out.symm, HE6.out.2.1⟩
              | false =>
                have HJ2 := Lib.hid (show blockB us k ⟨params, regs, blocks⟩ b ⟨phis, ins, jump, jon, nx⟩ = (!ins.any (fun i => !insB us k regs i) && phis.all (phiB regs b (preds (nxs ⟨params, regs, blocks⟩) (b : Int)).length)) by rw [HJ.out, hva]; rfl)
                clear hva
                have hil : ins.length ≤ 1048576 := Nat.le_trans (szS_len szInsD ins) HZ.out.2.2.1
                go_wp2_with fail
                refine (containsInss_any 64 #[.pointer (some ⟨w.heap.size, 0, none⟩), .pointer (some ⟨w.heap.size + 1, 0, none⟩)] (fun i => !insB us k regs i) ia ins.length ic ins w6 HR6.out.2 ⟨fun v W => rfl, fun y hy cs W hW hRy => ?_⟩ (by omega)).mono ?_
                · exact codeOk3_any us _ uc k ⟨params, regs, blocks⟩ HC.out.2.1 hlim.1 hn cs y (Nat.le_trans (szS_mem (sz := szInsD) hy) HZ.out.2.2.1) _ _ W (HC.out.1.later codeR_lasts (HE6.out.2.1.trans (hW.mono HE6.out.2.1.size))) hRy (cell_of_row _ _ 0 _ _ _ (HE6.out.1.later hW).a) (cell_of_row _ _ 0 _ _ _ (HE6.out.1.later hW).b)
                rintro e w7 ⟨rfl, hb7⟩
                have q0 := cell_later hb7 p0
                have j0 := cell_later hb7 h0
                have HE7 := Lib.hid (And.intro (HE6.out.1.later hb7) (And.intro (HE6.out.2.1.trans (hb7.mono HE6.out.2.1.size)) ((hb7.block _ (Array.getElem?_eq_some_iff.1 HE6.out.2.2).1).trans HE6.out.2.2)))
                have HR7 := Lib.hid (HR6.out.1.later phiR_lasts hb7)
                clear p0 p1 h0 HE6 HR6 hb7
                cases hvi : ins.any (fun i => !insB us k regs i) with
                | true =>
                  have HN := Lib.hid (codeB_stop HI.out HZ.out.1 (by rw [HJ2.out, hvi]; rfl))
                  clear hvi
                  go_wp2
                  go_ret
                  exact ⟨ret_bool HN.out.symm, HE7.out.2.1⟩
                | false =>
                  have HJ3 := Lib.hid (show blockB us k ⟨params, regs, blocks⟩ b ⟨phis, ins, jump, jon, nx⟩ = phis.all (phiB regs b (preds (nxs ⟨params, regs, blocks⟩) (b : Int)).length) by rw [HJ2.out, hvi]; rfl)
                  clear hvi
                  have k0 : w7.cell? ⟨w.heap.size + 1 + 1, 0, none⟩ = some (.int .i64 params) := cell_of_row _ _ 0 _ _ _ HE7.out.1.c
                  have k1 : w7.cell? ⟨w.heap.size + 1 + 1, 1, none⟩ = some (.int .i64 regs) := cell_of_row _ _ 1 _ _ _ HE7.out.1.c
                  have k2 : w7.cell? ⟨w.heap.size + 1 + 1, 2, none⟩ = some (.slice (some ⟨b1, o1, none⟩) blocks.length bc) := cell_of_row _ _ 2 _ _ _ HE7.out.1.c
                  have hP : Calls Try.prog 47 #[.agg #[.int .i64 params, .int .i64 regs, .slice (some ⟨b1, o1, none⟩) blocks.length bc], .int .i64 (b : Int)] w7 fun e w' => RetInts w7 (preds (nxs ⟨params, regs, blocks⟩) (b : Int)) (preds (nxs ⟨params, regs, blocks⟩) (b : Int)).length e w' := by
                    obtain ⟨ba', bc', hcs, hg⟩ := gr_of_code (codeR_lasts _ _ _ _ HE7.out.2.1 HC.out.2.2.2.1) HC.out.2.2.1
                    simp only [List.cons.injEq, Value.slice.injEq, and_true, true_and] at hcs
                    obtain ⟨rfl, hnl, rfl⟩ := hcs
                    have hnl : blocks.length = (nxs ⟨params, regs, blocks⟩).length := hnl
                    have := predsOf_any params regs _ bc _ (b : Int) (okN_iff.2 ⟨by omega, by omega⟩) w7 hg
                    rw [← hnl] at this
                    exact this
                  have hpl : (preds (nxs ⟨params, regs, blocks⟩) (b : Int)).length ≤ blocks.length := by
                    have := preds_len (nxs ⟨params, regs, blocks⟩) (b : Int)
                    simpa [nxs] using this
                  go_wp2_with fail
                  refine hP.mono ?_
                  clear hP k0 k1 k2
                  generalize preds (nxs ⟨params, regs, blocks⟩) (b : Int) = ps at HJ3 hpl ⊢
                  rintro e w8 ⟨a8, c8, rfl, _, hb8⟩
                  have r0 := cell_later hb8 q0
                  have HE8 := Lib.hid (And.intro (HE7.out.1.later hb8) (HE7.out.2.1.trans (hb8.mono HE7.out.2.1.size)))
                  have HR8 := Lib.hid (HR7.out.later phiR_lasts hb8)
                  have hpl2 : phis.length ≤ 1048576 := Nat.le_trans (szS_len szPhiD phis) HZ.out.2.1
                  clear q0 j0 hb8 HE7
                  go_wp2
                  clear r0
                  go_loopg [93] phis.length (fun F j wq => ∃ i : Nat, i + F = phis.length ∧ j = .int .i64 i ∧ Hid ((Four w.heap.size (.cells #[.slice (some ⟨ub, uo, none⟩) us.length uc] 25) (.cells #[.int .i64 (k : Int)] 3) (.cells #[.int .i64 params, .int .i64 regs, .slice (some ⟨b1, o1, none⟩) blocks.length bc] 37)
                    (.cells #[.func (.func 59) #[] #[.pointer (some ⟨w.heap.size + 1 + 1, 0, none⟩)]] 87) wq ∧ Below w.heap.size w wq) ∧ Below w8.heap.size w8 wq ∧ (phis.take i).all (phiB regs b ps.length) = true))
                  case atStart => exact ⟨0, by omega, rfl, Lib.hid ⟨HE8.out, Below.refl _ _, rfl⟩⟩
                  case round =>
                    obtain ⟨i, hi, rfl, HQ⟩ := hrel
                    clear HE8
                    by_cases hlt2 : i < phis.length
                    · obtain ⟨b3, o3, ft, args, aa, ac, rfl, hxp, p0, p1, hRp⟩ := phi_place (HR8.out.later phiR_lasts HQ.out.2.1) hlt2
                      have hzp := szS_get (sz := szPhiD) HZ.out.2.1 hxp
                      have hal : args.length ≤ 1048576 := hzp.1
                      have hba : Below wr.heap.size wr (wr.alloc (.cells #[.int .i64 ft, .slice aa args.length ac] 78)) := (Below.refl _ _).alloc (Nat.le_refl _) _
                      have hbl0 := heap_alloc_new wr (.cells #[.int .i64 ft, .slice aa args.length ac] 78)
                      obtain ⟨_, _, hcs, ⟨_, hap⟩⟩ := hRp
                      simp only [List.cons.injEq, Value.slice.injEq, and_true, true_and] at hcs
                      obtain ⟨rfl, rfl⟩ := hcs
                      have HX := Lib.hid (And.intro hxp (hap.later hba))
                      have HE := Lib.hid (And.intro (And.intro (HQ.out.1.1.later hba) (HQ.out.1.2.trans (hba.mono HQ.out.1.2.size))) (And.intro hbl0 (And.intro (HQ.out.2.1.trans (hba.mono HQ.out.2.1.size)) HQ.out.2.2)))
                      clear hxp hzp hba hbl0 hap HQ
                      go_upto_region 16 with fail
                      clear p0 p1
                      generalize wr.alloc (.cells #[.int .i64 ft, .slice aa args.length ac] 78) = W9 at HX HE ⊢
                      have x0 : W9.cell? ⟨wr.heap.size, 0, none⟩ = some (.int .i64 ft) := cell_of_row _ _ 0 _ _ _ HE.out.2.1
                      have x1 : W9.cell? ⟨wr.heap.size, 1, none⟩ = some (.slice aa args.length ac) := cell_of_row _ _ 1 _ _ _ HE.out.2.1
                      have f0 : W9.cell? ⟨w.heap.size + 1 + 1 + 1, 0, none⟩ = some (.func (.func 59) #[] #[.pointer (some ⟨w.heap.size + 1 + 1, 0, none⟩)]) := cell_of_row _ _ 0 _ _ _ HE.out.1.1.d
                      have r1 : W9.cell? ⟨w.heap.size + 1 + 1, 1, none⟩ = some (.int .i64 regs) := cell_of_row _ _ 1 _ _ _ HE.out.1.1.c
                      have hen : ∀ v W, (callFunc 59 (#[v] ++ #[.pointer (some ⟨w.heap.size + 1 + 1, 0, none⟩)])).run Try.prog W = .ok (.enter 59 (#[v] ++ #[.pointer (some ⟨w.heap.size + 1 + 1, 0, none⟩)])) W := fun _ _ => rfl
                      have HP := Lib.hid (show phiB regs b ps.length ⟨ft, args⟩ = (!((b : Int) == 0) && inR regs ft && !((args.length : Int) != (ps.length : Int)) && !args.any (fun r => !inR regs r)) from rfl)
                      have HR1 := Lib.hid (codeOk1_any ft regs _ W9 hlim.1 r1)
                      cases hb0 : ((b : Int) == 0) with
                      | true =>
                        have HN := Lib.hid (codeB_stop HI.out HZ.out.1 (by rw [HJ3.out]; exact all_stop HX.out.1 (by rw [HP.out, hb0]; rfl)))
                        go_wp2
                        go_ret
                        exact ⟨ret_bool HN.out.symm, HE.out.1.2⟩
                      | false =>
                        have HP1 := Lib.hid (show phiB regs b ps.length ⟨ft, args⟩ = (inR regs ft && !((args.length : Int) != (ps.length : Int)) && !args.any (fun r => !inR regs r)) by rw [HP.out, hb0]; rfl)
                        go_wp2_with fail
                        refine HR1.out.mono ?_
                        cases hin : inR regs ft with
                        | false =>
                          rintro e w10 ⟨rfl, rfl⟩
                          have HN := Lib.hid (codeB_stop HI.out HZ.out.1 (by rw [HJ3.out]; exact all_stop HX.out.1 (by rw [HP1.out, hin]; rfl)))
                          go_wp2
                          go_ret
                          exact ⟨ret_bool HN.out.symm, HE.out.1.2⟩
                        | true =>
                          have HP2 := Lib.hid (show phiB regs b ps.length ⟨ft, args⟩ = (!((args.length : Int) != (ps.length : Int)) && !args.any (fun r => !inR regs r)) by rw [HP1.out, hin]; rfl)
                          clear hin
                          rintro e w10 ⟨rfl, rfl⟩
                          cases hle : ((args.length : Int) != (ps.length : Int)) with
                          | true =>
                            have HN := Lib.hid (codeB_stop HI.out HZ.out.1 (by rw [HJ3.out]; exact all_stop HX.out.1 (by rw [HP2.out, hle]; rfl)))
                            go_wp2
                            go_ret
                            exact ⟨ret_bool HN.out.symm, HE.out.1.2⟩
                          | false =>
                            have HP3 := Lib.hid (show phiB regs b ps.length ⟨ft, args⟩ = !args.any (fun r => !inR regs r) by rw [HP2.out, hle]; rfl)
                            go_wp2_with fail
                            refine (containsInts_any 66 #[.pointer (some ⟨w.heap.size + 1 + 1 + 1, 0, none⟩)] (fun r => !inR regs r) aa args.length ac args w10 HX.out.2 ⟨fun v W => rfl, fun y hy W hW => ?_⟩ (by omega)).mono ?_
                            · refine (codeOk4_any y regs _ _ W hlim.1 (cell_later hW r1) (cell_later hW f0)).mono ?_
                              rintro e w2 ⟨rfl, rfl⟩
                              exact ⟨rfl, Below.refl _ _⟩
                            rintro e w11 ⟨rfl, hb11⟩
                            have HE11 := Lib.hid (And.intro (And.intro (HE.out.1.1.later hb11) (HE.out.1.2.trans (hb11.mono HE.out.1.2.size))) (HE.out.2.2.1.trans (hb11.mono HE.out.2.2.1.size)))
                            clear hb11
                            cases hva : args.any (fun r => !inR regs r) with
                            | true =>
                              have HN := Lib.hid (codeB_stop HI.out HZ.out.1 (by rw [HJ3.out]; exact all_stop HX.out.1 (by rw [HP3.out, hva]; rfl)))
                              go_wp2
                              go_ret
                              exact ⟨ret_bool HN.out.symm, HE11.out.1.2⟩
                            | false =>
                              have HP4 := Lib.hid (show phiB regs b ps.length ⟨ft, args⟩ = true by rw [HP3.out, hva]; rfl)
                              go_wp2
                              go_roundg (gk - 1)
                              case measure => omega
                              case rel => exact ⟨i + 1, by omega, by go_num, Lib.hid ⟨HE11.out.1, HE11.out.2, all_next HE.out.2.2.2 HX.out.1 HP4.out⟩⟩
                    · obtain rfl : i = phis.length := by omega
                      have HA := Lib.hid (show phis.all (phiB regs b ps.length) = true by have := HQ.out.2.2; rwa [List.take_length] at this)
                      go_wp2
                      go_roundg (blocks.length - (b + 1))
                      case measure => omega
                      case rel => exact ⟨b + 1, by omega, by go_num, Lib.hid ⟨HQ.out.1, allTo_next HK.out.2 HZ.out.1 (by rw [HJ3.out]; exact HA.out)⟩⟩
        · obtain rfl : b = blocks.length := by omega
          have HA := Lib.hid (show codeB us k ⟨params, regs, blocks⟩ = true by rw [HI.out]; exact HK.out.2)
          go_wp2
          go_ret
          exact ⟨ret_bool HA.out.symm, HK.out.1.2⟩

end Go.Proofs.Ytajnldkempeheaa
