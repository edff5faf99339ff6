
/-
  The reference draws a machine (l22Mach): the walk.
-/
import Derived.Test.YtdkafajmhgfkoaaDoorMd3
namespace Go.Proofs.YtdkafajmhgfkoaaDoor
open Go.RowKit

/-- A machine was drawn. -/
def MachDrawn (w0 w : World) (br : Nat) (a : Option Addr) (len cap : Nat) (bs : List Int) (e : Ending) (w' : World) : Prop :=
  ∃ am nm cm fs q, e = .returned (.agg #[.slice am nm cm]) ∧ Rd w0 w' br a len cap bs q ∧ q ≤ 2000 ∧ TurnBr br w w' ∧ FnsOwn w' w.heap.size am nm cm fs ∧ 1 ≤ nm ∧ nm ≤ 3

theorem mem_nat {x : Int} {xs : List Int} {hi : Nat} (h : x ∈ xs) (ha : ∀ y ∈ xs, 1 ≤ y ∧ y ≤ (hi : Int)) : ∃ L : Nat, x = (L : Int) ∧ 1 ≤ L ∧ L ≤ hi := by
  have := ha x h
  exact ⟨x.toNat, by omega, by omega, by omega⟩
theorem mem_int {x : Int} {xs : List Int} {hi : Nat} (h : x ∈ xs) (ha : ∀ y ∈ xs, 0 ≤ y ∧ y ≤ (hi : Int)) : 0 ≤ x ∧ x ≤ (hi : Int) := ha x h
theorem flat_one (f : FnH) (fs : List FnH) : (fs ++ [f]).flatMap FnH.cells = fs.flatMap FnH.cells ++ f.cells := by simp

set_option maxRecDepth 100000 in
set_option maxHeartbeats 8000000 in
theorem l22Mach_any (w0 w : World) (br : Nat) (a : Option Addr) (len cap : Nat) (bs : List Int) (hrd : Rd w0 w br a len cap bs 0) (hlen : len ≤ 2000) :
    Calls Tryd.prog 38 #[.pointer (some ⟨br, 0, none⟩)] w fun e w' => MachDrawn w0 w br a len cap bs e w' := by
  have hb0 : Below w.heap.size w ((w.alloc (.cells #[.slice none 0 0] 25)).alloc (.cells #[.slice none 0 0] 25)) := ((Below.refl _ _).alloc (Nat.le_refl _) _).alloc (by simp) _
  have hA := heap_alloc2_old w (.cells #[.slice none 0 0] 25) (.cells #[.slice none 0 0] 25)
  have hB := heap_alloc2_new w (.cells #[.slice none 0 0] 25) (.cells #[.slice none 0 0] 25)
  have HM := Lib.hid (show MachA w0 w br a len cap bs none 0 0 [] 0 ((w.alloc (.cells #[.slice none 0 0] 25)).alloc (.cells #[.slice none 0 0] 25)) from
    ⟨hrd.below' hb0, TurnBr.of_below hb0, hrd.lt, hA, hB, ⟨World.ownsRow_nil _ _ _ _, by simp, by simp⟩⟩)
  clear hb0 hA hB hrd
  go_enter Tryd.func38, Tryd.ntmps38
  go_upto_region 2 with fail
  generalize (w.alloc (.cells #[.slice none 0 0] 25)).alloc (.cells #[.slice none 0 0] 25) = W1 at HM ⊢
  have HNE := Lib.hid (show W1.heap.size ≠ br by have := HM.out.rd.lt; omega)
  go_wp2_with fail
  refine (num_any w0 _ br a len cap bs 0 W1.heap.size 4 4 [1, 2, 1, 3] (HM.out.rd.alloc _) (lit_rd W1 [1, 2, 1, 3] (by decide)) HNE.out (by omega) hlen (by omega)).mono ?_
  rintro e w2 ⟨N, hN, rfl, hrd2, hg2⟩
  obtain ⟨N, rfl, hN1, hN3⟩ := mem_nat (hi := 3) hN (by decide)
  clear hN
  have HM2 := Lib.hid (HM.out.step ((TurnBr.of_below ((Below.refl W1.heap.size W1).alloc (Nat.le_refl _) (.cells ([1, 2, 1, 3].map (Value.int .i64)).toArray 3))).trans (TurnBr.of_grown hg2)) hrd2)
  clear hrd2 hg2 HM HNE
  go_wp2_with fail
  go_loopg [5] N (fun G i wr => ∃ (k : Nat) (am : Option Addr) (cm : Nat) (fs : List FnH) (q : Nat), k + G = N ∧ i = .int .i64 k ∧ Hid (MachA w0 w br a len cap bs am k cm fs q wr ∧ q ≤ 1 + 250 * k))
  case atStart => exact ⟨0, none, 0, [], 1, by omega, rfl, Lib.hid ⟨HM2.out, by omega⟩⟩
  case round =>
    obtain ⟨k, am, cm, fs, q, hk, rfl, HA⟩ := hrel
    clear HM2
    by_cases hlt : k < N
    · have hki : (k : Int) < (N : Int) := by omega
      have HQ := Lib.hid (show q ≤ 751 by have := HA.out.2; omega)
      go_wp2_with fail
      refine (num_any w0 _ br a len cap bs q wr.heap.size 4 4 [1, 0, 2, 3] (HA.out.1.rd.alloc _) (lit_rd wr [1, 0, 2, 3] (by decide)) (by have := HA.out.1.rd.lt; omega) (by omega) hlen (by have := HQ.out; omega)).mono ?_
      rintro e w3 ⟨params, hpa, rfl, hrd3, hg3⟩
      have hpa := mem_int (hi := 1000) hpa (by decide)
      have HA3 := Lib.hid (HA.out.1.step ((TurnBr.of_below ((Below.refl wr.heap.size wr).alloc (Nat.le_refl _) (.cells ([1, 0, 2, 3].map (Value.int .i64)).toArray 3))).trans (TurnBr.of_grown hg3)) hrd3)
      have HPA := Lib.hid hpa
      clear hrd3 hg3 hpa
      go_wp2_with fail
      refine (num_any w0 _ br a len cap bs (q + 1) w3.heap.size 4 4 [2, 0, 5, 1] (HA3.out.rd.alloc _) (lit_rd w3 [2, 0, 5, 1] (by decide)) (by have := HA3.out.rd.lt; omega) (by omega) hlen (by have := HQ.out; omega)).mono ?_
      rintro e w4 ⟨slots, hsl, rfl, hrd4, hg4⟩
      have hsl := mem_int (hi := 1000) hsl (by decide)
      have HSL := Lib.hid hsl
      have hba : Below w4.heap.size w4 (w4.alloc (.cells #[.int .i64 params, .int .i64 slots, .slice none 0 0] 32)) := (Below.refl _ _).alloc (Nat.le_refl _) _
      have HB4 := Lib.hid (show MachB w0 w br a len cap bs am k cm fs w4.heap.size params slots none 0 0 (q + 2) (w4.alloc (.cells #[.int .i64 params, .int .i64 slots, .slice none 0 0] 32)) by
        have hA4 := HA3.out.step ((TurnBr.of_below ((Below.refl w3.heap.size w3).alloc (Nat.le_refl _) (.cells ([2, 0, 5, 1].map (Value.int .i64)).toArray 3))).trans (TurnBr.of_grown hg4)) hrd4
        refine ⟨hA4.below hba, heap_alloc_new w4 _, ⟨[], World.ownsRow_nil _ _ _ _⟩, fun k hk => ?_, (Array.getElem?_eq_some_iff.1 hA4.mbox).1, fun f hf k hk hk' => by cases hk'⟩
        have := (hA4.fns.own.lt k hk).2
        omega)
      clear hrd4 hg4 hsl hba HA3
      have hsz : (w4.alloc (.cells #[.int .i64 params, .int .i64 slots, .slice none 0 0] 32)).heap.size = w4.heap.size + 1 := World.size_alloc _ _
      have HSZ := Lib.hid hsz
      clear hsz
      go_wp2_with fail
      generalize w4.alloc (.cells #[.int .i64 params, .int .i64 slots, .slice none 0 0] 32) = W5 at HB4 HSZ ⊢
      obtain ⟨bf, hbf⟩ : ∃ b, b = w4.heap.size := ⟨_, rfl⟩
      rw [← hbf] at HB4 HSZ ⊢
      clear hbf
      rw [← HSZ.out]
      refine (num_any w0 _ br a len cap bs (q + 2) W5.heap.size 6 6 [6, 9, 14, 3, 1, 20] (HB4.out.A.rd.alloc _) (lit_rd W5 [6, 9, 14, 3, 1, 20] (by decide)) (by have := HB4.out.A.rd.lt; omega) (by omega) hlen (by have := HQ.out; omega)).mono ?_
      rintro e w6 ⟨M, hM, rfl, hrd6, hg6⟩
      obtain ⟨M, rfl, hM1, hM20⟩ := mem_nat (hi := 20) hM (by decide)
      clear hM
      have HB6 := Lib.hid (HB4.out.step ((TurnBr.of_below ((Below.refl W5.heap.size W5).alloc (Nat.le_refl _) (.cells ([6, 9, 14, 3, 1, 20].map (Value.int .i64)).toArray 3))).trans (TurnBr.of_grown hg6)) hrd6)
      clear hrd6 hg6 HB4
      go_wp2_with fail
      go_loopg [8] M (fun G i wq => ∃ (j : Nat) (ia : Option Addr) (c : Nat) (q2 : Nat), j + G = M ∧ j + 1 ≤ M ∧ i = .int .i64 j ∧ Hid (MachB w0 w br a len cap bs am k cm fs bf params slots ia j c q2 wq ∧ q2 ≤ q + 3 + 8 * j))
      case atStart => exact ⟨0, none, 0, _, by omega, by omega, rfl, Lib.hid ⟨HB6.out, by omega⟩⟩
      case round =>
        rename World => wq
        obtain ⟨j, ia, c, q2, hj, hjM, rfl, HB⟩ := hrel
        have HQ2 := Lib.hid (show q2 ≤ 1000 by have := HB.out.2; have := HQ.out; omega)
        by_cases hltj : j + 1 < M
        · have hji : (j : Int) < (M : Int) - 1 := by omega
          go_wp2_with fail
          have HQ3 := Lib.hid (fun (q3 : Nat) (h : q3 ≤ q2 + 8) => show q3 ≤ q + 3 + 8 * (j + 1) by have := HB.out.2; omega)
          have k0 : wq.cell? ⟨bf, 0, none⟩ = some (.int .i64 params) := cell_of_row _ _ 0 _ _ _ HB.out.1.fbox
          have k1 : wq.cell? ⟨bf, 1, none⟩ = some (.int .i64 slots) := cell_of_row _ _ 1 _ _ _ HB.out.1.fbox
          have k2 : wq.cell? ⟨bf, 2, none⟩ = some (.slice ia j c) := cell_of_row _ _ 2 _ _ _ HB.out.1.fbox
          have HDR := Lib.hid (fun nq => HB.out.1.below (below_drewN (Below.refl _ _) nq))
          have HSOME := Lib.hid (fun nq => l22Some_any w0 (wq.drewN nq) br a len cap bs q2 (HDR.out nq).A.rd hlen (by have := HQ2.out; omega) k M params slots (.slice ia j c) (by omega) (by omega) HPA.out HSL.out)
          go_region_law (first | (go_simp; go_at_call 51; refine (HSOME.out _).mono ?_; rintro e w7 ⟨op, fa, fb, fc, fn, q3, rfl, hrd7, hq3, ht7⟩; (have H7 := (HDR.out _).step ht7 hrd7); (have hq3' := HQ3.out q3 hq3); (have H8 := H7.below ((Below.refl w7.heap.size w7).alloc (Nat.le_refl _) (.cells #[.int .i64 op, .int .i64 fa, .int .i64 fb, .int .i64 fc, .int .i64 fn] 41))); (have g2 : w7.cell? ⟨bf, 2, none⟩ = some (.slice ia j c) := cell_of_row _ _ 2 _ _ _ H7.fbox); (have i2 : (w7.alloc (.cells #[.int .i64 op, .int .i64 fa, .int .i64 fb, .int .i64 fc, .int .i64 fn] 41)).cell? ⟨bf, 2, none⟩ = some (.slice ia j c) := cell_of_row _ _ 2 _ _ _ H8.fbox)) | (obtain ⟨zs, hzs⟩ := H8.ins; refine step_app_mins rfl (.tmp 35) (.tmp 41) rfl w.heap.size _ j _ rfl hzs _ 1 [op, fa, fb, fc, fn] rfl (rowAt_cells w7 [.int .i64 op, .int .i64 fa, .int .i64 fb, .int .i64 fc, .int .i64 fn] 41) rfl (by omega) (H8.A.turned.size) ?_; intro a9 c9 w9 hown9 hg9 hlies9; (have h9 : w9.heap[bf]? = some (.cells #[.int .i64 params, .int .i64 slots, .slice ia j c] 32 (0, 0)) := (hg9.block bf (Array.getElem?_eq_some_iff.1 H8.fbox).1 (fun e => ins_not H8.ins H8.fbox (by decide) bf e.symm rfl)).trans H8.fbox); (have s2 := cell_of_row _ _ 2 _ _ _ h9); (have t2 := frozen_of_row _ _ 2 _ _ h9)))
          all_goals
            have HP := Lib.hid (And.intro (H8.push ⟨zs ++ [op, fa, fb, fc, fn], by rw [List.map_append]; exact hown9⟩ hg9 hlies9) hq3')
            clear H7 H8 hzs hown9 hg9 hlies9 h9 s2 t2 k0 k1 k2 g2 i2 hrd7 hq3' hq3 ht7
            generalize w9.setCell ⟨bf, 2, none⟩ (.slice a9 (j + 1) c9) = w10 at HP ⊢
            go_wp2
            go_roundg (M - (j + 1))
            case measure => omega
            case rel => exact ⟨j + 1, _, _, _, by omega, by omega, by go_num, Lib.hid HP.out⟩
        · have HQ3z := HQ2
          obtain rfl : M = j + 1 := by omega
          obtain hj0 | hj0 : j = 0 ∨ 0 < j := by omega
          · subst hj0
            go_wp2_with fail
            have HQ3 := Lib.hid (show q2 + 1 ≤ q + 240 by have := HB.out.2; omega)
            have k0 : wq.cell? ⟨bf, 0, none⟩ = some (.int .i64 params) := cell_of_row _ _ 0 _ _ _ HB.out.1.fbox
            have k1 : wq.cell? ⟨bf, 1, none⟩ = some (.int .i64 slots) := cell_of_row _ _ 1 _ _ _ HB.out.1.fbox
            have k2 : wq.cell? ⟨bf, 2, none⟩ = some (.slice ia 0 c) := cell_of_row _ _ 2 _ _ _ HB.out.1.fbox
            have HDR := Lib.hid (fun nq => HB.out.1.below (below_drewN (Below.refl _ _) nq))
            have HSOME := Lib.hid (fun nq => pick_any w0 (wq.drewN nq) br a len cap bs q2 (8) (HDR.out nq).A.rd (by omega) hlen (by have := HQ2.out; omega))
            go_region_law (first | (go_simp; go_at_call 39; refine (HSOME.out _).mono ?_; rintro e w7 ⟨pv, _, _, rfl, hrd7, hg7⟩; (have H7 := (HDR.out _).step (TurnBr.of_grown hg7) hrd7); (have hq3' := HQ3.out); (have H8 := H7.below ((Below.refl w7.heap.size w7).alloc (Nat.le_refl _) (.cells #[.int .i64 22, .int .i64 pv, .int .i64 0, .int .i64 0, .int .i64 0] 41))); (have g2 : w7.cell? ⟨bf, 2, none⟩ = some (.slice ia 0 c) := cell_of_row _ _ 2 _ _ _ H7.fbox); (have i2 : (w7.alloc (.cells #[.int .i64 22, .int .i64 pv, .int .i64 0, .int .i64 0, .int .i64 0] 41)).cell? ⟨bf, 2, none⟩ = some (.slice ia 0 c) := cell_of_row _ _ 2 _ _ _ H8.fbox)) | (obtain ⟨zs, hzs⟩ := H8.ins; refine step_app_mins rfl (.tmp 61) (.tmp 65) rfl w.heap.size _ 0 _ rfl hzs _ 1 [22, pv, 0, 0, 0] rfl (rowAt_cells w7 [.int .i64 22, .int .i64 pv, .int .i64 0, .int .i64 0, .int .i64 0] 41) rfl (by omega) (H8.A.turned.size) ?_; intro a9 c9 w9 hown9 hg9 hlies9; (have h9 : w9.heap[bf]? = some (.cells #[.int .i64 params, .int .i64 slots, .slice ia 0 c] 32 (0, 0)) := (hg9.block bf (Array.getElem?_eq_some_iff.1 H8.fbox).1 (fun e => ins_not H8.ins H8.fbox (by decide) bf e.symm rfl)).trans H8.fbox); (have s2 := cell_of_row _ _ 2 _ _ _ h9); (have t2 := frozen_of_row _ _ 2 _ _ h9)))
            all_goals
              have HP := Lib.hid (And.intro (H8.push ⟨zs ++ [22, pv, 0, 0, 0], by rw [List.map_append]; exact hown9⟩ hg9 hlies9) hq3')
              clear H7 H8 hzs hown9 hg9 hlies9 h9 s2 t2 k0 k1 k2 g2 i2 hrd7 hq3' hg7
              generalize w9.setCell ⟨bf, 2, none⟩ (.slice a9 (0 + 1) c9) = w10 at HP ⊢
              have k0 : w10.cell? ⟨bf, 0, none⟩ = some (.int .i64 params) := cell_of_row _ _ 0 _ _ _ HP.out.1.fbox
              have k1 : w10.cell? ⟨bf, 1, none⟩ = some (.int .i64 slots) := cell_of_row _ _ 1 _ _ _ HP.out.1.fbox
              have k2 : w10.cell? ⟨bf, 2, none⟩ = some (.slice a9 (0 + 1) c9) := cell_of_row _ _ 2 _ _ _ HP.out.1.fbox
              have m0 : w10.cell? ⟨w.heap.size + 1, 0, none⟩ = some (.slice am k cm) := cell_of_row _ _ 0 _ _ _ HP.out.1.A.mbox
              have HF := Lib.hid (HP.out.1.below ((Below.refl w10.heap.size w10).alloc (Nat.le_refl _) (.cells #[.int .i64 params, .int .i64 slots, .slice a9 (0 + 1) c9] 32)))
              go_wp2_with (at_builtin; refine app_mfn rfl (.tmp 69) (.tmp 71) rfl w.heap.size _ k _ rfl HF.out.A.fns.own _ 1 [.int .i64 params, .int .i64 slots, .slice a9 (0 + 1) c9] rfl (rowAt_cells w10 _ 32) rfl (by intro u hu; simp at hu; rcases hu with rfl | rfl | rfl <;> rfl) (by omega) (HF.out.A.turned.size) ?_; intro a11 c11 w11 hown11 hg11 hlies11; (have h11 : w11.heap[w.heap.size + 1]? = some (.cells #[.slice am k cm] 25 (0, 0)) := (hg11.block _ (Array.getElem?_eq_some_iff.1 HF.out.A.mbox).1 (fun e => fns_not HF.out.A.fns.own HF.out.A.mbox (by decide) _ e.symm rfl)).trans HF.out.A.mbox); (have s0 := cell_of_row _ _ 0 _ _ _ h11); (have t0 := frozen_of_row _ _ 0 _ _ h11); (have HG := Lib.hid (HF.out.finish (by omega) hown11 hg11)); clear k0 k1 k2 m0 h11 hown11 hg11 hlies11)
              go_roundg (N - (k + 1))
              case measure => omega
              case rel => exact ⟨k + 1, _, _, _, _, by omega, by go_num, Lib.hid ⟨HG.out, by have := HP.out.2; have := HA.out.2; omega⟩⟩
          · have hji : (1 : Int) < ((j + 1 : Nat) : Int) := by omega
            go_wp2_with fail
            refine (pick_any w0 _ br a len cap bs q2 6 HB.out.1.A.rd (by omega) hlen (by have := HQ2.out; omega)).mono ?_
            rintro e w6b ⟨v6, _, _, rfl, hrd6, hg6⟩
            have HC := Lib.hid (HB.out.1.step (TurnBr.of_grown hg6) hrd6)
            have HQ3 := Lib.hid (show q2 + 1 + 1 ≤ q + 240 by have := HB.out.2; omega)
            clear hrd6 hg6
            cases hv6 : (v6 == 0) with
            | true =>
              go_wp2_with fail
              have k0 : w6b.cell? ⟨bf, 0, none⟩ = some (.int .i64 params) := cell_of_row _ _ 0 _ _ _ HC.out.fbox
              have k1 : w6b.cell? ⟨bf, 1, none⟩ = some (.int .i64 slots) := cell_of_row _ _ 1 _ _ _ HC.out.fbox
              have k2 : w6b.cell? ⟨bf, 2, none⟩ = some (.slice ia j c) := cell_of_row _ _ 2 _ _ _ HC.out.fbox
              have HDR := Lib.hid (fun nq => HC.out.below (below_drewN (Below.refl _ _) nq))
              have HSOME := Lib.hid (fun nq => pick_any w0 (w6b.drewN nq) br a len cap bs (q2 + 1) (((j + 1 : Nat) : Int)) (HDR.out nq).A.rd (by omega) hlen (by have := HQ2.out; omega))
              go_region_law (first | (go_simp; go_at_call 39; refine (HSOME.out _).mono ?_; rintro e w7 ⟨pv, _, _, rfl, hrd7, hg7⟩; (have H7 := (HDR.out _).step (TurnBr.of_grown hg7) hrd7); (have hq3' := HQ3.out); (have H8 := H7.below ((Below.refl w7.heap.size w7).alloc (Nat.le_refl _) (.cells #[.int .i64 20, .int .i64 0, .int .i64 0, .int .i64 0, .int .i64 pv] 41))); (have g2 : w7.cell? ⟨bf, 2, none⟩ = some (.slice ia j c) := cell_of_row _ _ 2 _ _ _ H7.fbox); (have i2 : (w7.alloc (.cells #[.int .i64 20, .int .i64 0, .int .i64 0, .int .i64 0, .int .i64 pv] 41)).cell? ⟨bf, 2, none⟩ = some (.slice ia j c) := cell_of_row _ _ 2 _ _ _ H8.fbox)) | (obtain ⟨zs, hzs⟩ := H8.ins; refine step_app_mins rfl (.tmp 52) (.tmp 57) rfl w.heap.size _ j _ rfl hzs _ 1 [20, 0, 0, 0, pv] rfl (rowAt_cells w7 [.int .i64 20, .int .i64 0, .int .i64 0, .int .i64 0, .int .i64 pv] 41) rfl (by omega) (H8.A.turned.size) ?_; intro a9 c9 w9 hown9 hg9 hlies9; (have h9 : w9.heap[bf]? = some (.cells #[.int .i64 params, .int .i64 slots, .slice ia j c] 32 (0, 0)) := (hg9.block bf (Array.getElem?_eq_some_iff.1 H8.fbox).1 (fun e => ins_not H8.ins H8.fbox (by decide) bf e.symm rfl)).trans H8.fbox); (have s2 := cell_of_row _ _ 2 _ _ _ h9); (have t2 := frozen_of_row _ _ 2 _ _ h9)))
              all_goals
                have HP := Lib.hid (And.intro (H8.push ⟨zs ++ [20, 0, 0, 0, pv], by rw [List.map_append]; exact hown9⟩ hg9 hlies9) hq3')
                clear H7 H8 hzs hown9 hg9 hlies9 h9 s2 t2 k0 k1 k2 g2 i2 hrd7 hq3' hg7
                generalize w9.setCell ⟨bf, 2, none⟩ (.slice a9 (j + 1) c9) = w10 at HP ⊢
                have k0 : w10.cell? ⟨bf, 0, none⟩ = some (.int .i64 params) := cell_of_row _ _ 0 _ _ _ HP.out.1.fbox
                have k1 : w10.cell? ⟨bf, 1, none⟩ = some (.int .i64 slots) := cell_of_row _ _ 1 _ _ _ HP.out.1.fbox
                have k2 : w10.cell? ⟨bf, 2, none⟩ = some (.slice a9 (j + 1) c9) := cell_of_row _ _ 2 _ _ _ HP.out.1.fbox
                have m0 : w10.cell? ⟨w.heap.size + 1, 0, none⟩ = some (.slice am k cm) := cell_of_row _ _ 0 _ _ _ HP.out.1.A.mbox
                have HF := Lib.hid (HP.out.1.below ((Below.refl w10.heap.size w10).alloc (Nat.le_refl _) (.cells #[.int .i64 params, .int .i64 slots, .slice a9 (j + 1) c9] 32)))
                go_wp2_with (at_builtin; refine app_mfn rfl (.tmp 69) (.tmp 71) rfl w.heap.size _ k _ rfl HF.out.A.fns.own _ 1 [.int .i64 params, .int .i64 slots, .slice a9 (j + 1) c9] rfl (rowAt_cells w10 _ 32) rfl (by intro u hu; simp at hu; rcases hu with rfl | rfl | rfl <;> rfl) (by omega) (HF.out.A.turned.size) ?_; intro a11 c11 w11 hown11 hg11 hlies11; (have h11 : w11.heap[w.heap.size + 1]? = some (.cells #[.slice am k cm] 25 (0, 0)) := (hg11.block _ (Array.getElem?_eq_some_iff.1 HF.out.A.mbox).1 (fun e => fns_not HF.out.A.fns.own HF.out.A.mbox (by decide) _ e.symm rfl)).trans HF.out.A.mbox); (have s0 := cell_of_row _ _ 0 _ _ _ h11); (have t0 := frozen_of_row _ _ 0 _ _ h11); (have HG := Lib.hid (HF.out.finish (by omega) hown11 hg11)); clear k0 k1 k2 m0 h11 hown11 hg11 hlies11)
                go_roundg (N - (k + 1))
                case measure => omega
                case rel => exact ⟨k + 1, _, _, _, _, by omega, by go_num, Lib.hid ⟨HG.out, by have := HP.out.2; have := HA.out.2; omega⟩⟩
            | false =>
              go_wp2_with fail
              have k0 : w6b.cell? ⟨bf, 0, none⟩ = some (.int .i64 params) := cell_of_row _ _ 0 _ _ _ HC.out.fbox
              have k1 : w6b.cell? ⟨bf, 1, none⟩ = some (.int .i64 slots) := cell_of_row _ _ 1 _ _ _ HC.out.fbox
              have k2 : w6b.cell? ⟨bf, 2, none⟩ = some (.slice ia j c) := cell_of_row _ _ 2 _ _ _ HC.out.fbox
              have HDR := Lib.hid (fun nq => HC.out.below (below_drewN (Below.refl _ _) nq))
              have HSOME := Lib.hid (fun nq => pick_any w0 (w6b.drewN nq) br a len cap bs (q2 + 1) (8) (HDR.out nq).A.rd (by omega) hlen (by have := HQ2.out; omega))
              go_region_law (first | (go_simp; go_at_call 39; refine (HSOME.out _).mono ?_; rintro e w7 ⟨pv, _, _, rfl, hrd7, hg7⟩; (have H7 := (HDR.out _).step (TurnBr.of_grown hg7) hrd7); (have hq3' := HQ3.out); (have H8 := H7.below ((Below.refl w7.heap.size w7).alloc (Nat.le_refl _) (.cells #[.int .i64 22, .int .i64 pv, .int .i64 0, .int .i64 0, .int .i64 0] 41))); (have g2 : w7.cell? ⟨bf, 2, none⟩ = some (.slice ia j c) := cell_of_row _ _ 2 _ _ _ H7.fbox); (have i2 : (w7.alloc (.cells #[.int .i64 22, .int .i64 pv, .int .i64 0, .int .i64 0, .int .i64 0] 41)).cell? ⟨bf, 2, none⟩ = some (.slice ia j c) := cell_of_row _ _ 2 _ _ _ H8.fbox)) | (obtain ⟨zs, hzs⟩ := H8.ins; refine step_app_mins rfl (.tmp 61) (.tmp 65) rfl w.heap.size _ j _ rfl hzs _ 1 [22, pv, 0, 0, 0] rfl (rowAt_cells w7 [.int .i64 22, .int .i64 pv, .int .i64 0, .int .i64 0, .int .i64 0] 41) rfl (by omega) (H8.A.turned.size) ?_; intro a9 c9 w9 hown9 hg9 hlies9; (have h9 : w9.heap[bf]? = some (.cells #[.int .i64 params, .int .i64 slots, .slice ia j c] 32 (0, 0)) := (hg9.block bf (Array.getElem?_eq_some_iff.1 H8.fbox).1 (fun e => ins_not H8.ins H8.fbox (by decide) bf e.symm rfl)).trans H8.fbox); (have s2 := cell_of_row _ _ 2 _ _ _ h9); (have t2 := frozen_of_row _ _ 2 _ _ h9)))
              all_goals
                have HP := Lib.hid (And.intro (H8.push ⟨zs ++ [22, pv, 0, 0, 0], by rw [List.map_append]; exact hown9⟩ hg9 hlies9) hq3')
                clear H7 H8 hzs hown9 hg9 hlies9 h9 s2 t2 k0 k1 k2 g2 i2 hrd7 hq3' hg7
                generalize w9.setCell ⟨bf, 2, none⟩ (.slice a9 (j + 1) c9) = w10 at HP ⊢
                have k0 : w10.cell? ⟨bf, 0, none⟩ = some (.int .i64 params) := cell_of_row _ _ 0 _ _ _ HP.out.1.fbox
                have k1 : w10.cell? ⟨bf, 1, none⟩ = some (.int .i64 slots) := cell_of_row _ _ 1 _ _ _ HP.out.1.fbox
                have k2 : w10.cell? ⟨bf, 2, none⟩ = some (.slice a9 (j + 1) c9) := cell_of_row _ _ 2 _ _ _ HP.out.1.fbox
                have m0 : w10.cell? ⟨w.heap.size + 1, 0, none⟩ = some (.slice am k cm) := cell_of_row _ _ 0 _ _ _ HP.out.1.A.mbox
                have HF := Lib.hid (HP.out.1.below ((Below.refl w10.heap.size w10).alloc (Nat.le_refl _) (.cells #[.int .i64 params, .int .i64 slots, .slice a9 (j + 1) c9] 32)))
                go_wp2_with (at_builtin; refine app_mfn rfl (.tmp 69) (.tmp 71) rfl w.heap.size _ k _ rfl HF.out.A.fns.own _ 1 [.int .i64 params, .int .i64 slots, .slice a9 (j + 1) c9] rfl (rowAt_cells w10 _ 32) rfl (by intro u hu; simp at hu; rcases hu with rfl | rfl | rfl <;> rfl) (by omega) (HF.out.A.turned.size) ?_; intro a11 c11 w11 hown11 hg11 hlies11; (have h11 : w11.heap[w.heap.size + 1]? = some (.cells #[.slice am k cm] 25 (0, 0)) := (hg11.block _ (Array.getElem?_eq_some_iff.1 HF.out.A.mbox).1 (fun e => fns_not HF.out.A.fns.own HF.out.A.mbox (by decide) _ e.symm rfl)).trans HF.out.A.mbox); (have s0 := cell_of_row _ _ 0 _ _ _ h11); (have t0 := frozen_of_row _ _ 0 _ _ h11); (have HG := Lib.hid (HF.out.finish (by omega) hown11 hg11)); clear k0 k1 k2 m0 h11 hown11 hg11 hlies11)
                go_roundg (N - (k + 1))
                case measure => omega
                case rel => exact ⟨k + 1, _, _, _, _, by omega, by go_num, Lib.hid ⟨HG.out, by have := HP.out.2; have := HA.out.2; omega⟩⟩
    · skip
      obtain rfl : k = N := by omega
      have m0 : wr.cell? ⟨w.heap.size + 1, 0, none⟩ = some (.slice am k cm) := cell_of_row _ _ 0 _ _ _ HA.out.1.mbox
      have r0 := cell_of_row _ _ 0 _ _ _ HA.out.1.res
      have z0 := frozen_of_row _ _ 0 _ _ HA.out.1.res
      have hrow : (wr.setCell ⟨w.heap.size, 0, none⟩ (.slice am k cm)).heap[w.heap.size]? = some (.cells #[.slice am k cm] 25 (0, 0)) := by
        rw [heap_setCell_same wr w.heap.size 0 _ _ _ HA.out.1.res]; rfl
      have HE := Lib.hid (show MachDrawn w0 w br a len cap bs (.returned (.agg #[.slice am k cm])) (wr.setCell ⟨w.heap.size, 0, none⟩ (.slice am k cm)) from
        ⟨am, k, cm, fs, q, rfl, HA.out.1.rd.cell HA.out.1.lt _ _, by have := HA.out.2; omega, HA.out.1.turned.cell (Nat.le_refl _) _ _, HA.out.1.fns.stored HA.out.1.res (by decide) (by decide) _ _, hN1, hN3⟩)
      have HR := Lib.hid hrow
      clear hrow
      go_wp2
      refine bodyPost_ret (results_cell_row rfl _ _ w.heap.size 25 _ (0, 0) _ rfl HR.out Tryd.underlying25 rfl (by kernel_rfl)) rfl ?_
      exact HE.out

end Go.Proofs.YtdkafajmhgfkoaaDoor
