/-
  The reference copies a code (l7Copy), from what its copy of a block gives.
-/
import Derived.Test.YtonlidgmfmgcmaaGreatClone
import Derived.Test.YtonlidgmfmgcmaaGreatHl
import Derived.Test.YtonlidgmfmgcmaaGreatDp
import Derived.Deep.DeepCutAuto
import Derived.Test.YtonlidgmfmgcmaaGreatDropImpl4
import Derived.Test.YtonlidgmfmgcmaaGreatQue
namespace Go.Proofs.YtonlidgmfmgcmaaGreat
open Go.RowKit
set_option linter.unusedVariables false

/-- What l7CopyBlock gives. -/
def CopyBlkC : Prop := ∀ (cs : List Value) (x : BlockD) (w : World), BlockR w cs x → szBlockD x ≤ 1048576 →
  Calls Tryz.prog 48 #[.agg cs.toArray] w fun e w' => ∃ cs', e = .returned (.agg (List.toArray cs')) ∧ BlockK (fun k => w.heap.size ≤ k) w' cs' x ∧ Below w.heap.size w w'
theorem two_rowsC (w : World) (P Z : Obj) : ((w.alloc P).alloc Z).heap[w.heap.size]? = some P ∧ ((w.alloc P).alloc Z).heap[w.heap.size + 1]? = some Z ∧ ((w.alloc P).alloc Z).heap.size = w.heap.size + 2 ∧ Below w.heap.size w ((w.alloc P).alloc Z) := by
  have h2 := heap_alloc_new (w.alloc P) Z
  rw [World.size_alloc] at h2
  exact ⟨heap_alloc2_old w P Z, h2, by rw [World.size_alloc, World.size_alloc], ((Below.refl _ _).alloc (Nat.le_refl _) _).alloc (by simp) _⟩
set_option maxRecDepth 100000 in
set_option maxHeartbeats 4000000 in
theorem l7Copy_any (hC : CopyBlkC) (cs : List Value) (x : CodeD) (w : World) (hR : CodeR w cs x) (hs : szCodeD x ≤ 1048576) :
    Calls Tryz.prog 26 #[.agg cs.toArray] w fun e w' => ∃ cs', e = .returned (.agg (List.toArray cs')) ∧ CodeK (fun k => w.heap.size ≤ k) w' cs' x ∧ Below w.heap.size w w' := by
  obtain ⟨ba, bc, rfl, ⟨bm, br⟩⟩ := hR
  unfold szCodeD at hs
  have HBR := Lib.hid (And.intro bm br)
  have HS := Lib.hid hs
  have HCC0 := Lib.hid hC
  have hbn : x.blocks.length ≤ 1048576 := by have := szS_len szBlockD x.blocks; omega
  have H2 := Lib.hid (two_rowsC w (.cells #[.int .i64 x.params, .int .i64 x.regs, .slice ba x.blocks.length bc] 52) (.cells #[.int .i64 0, .int .i64 0, .slice none 0 0] 52))
  clear hs bm br hC
  go_enter Tryz.func26, Tryz.ntmps26
  go_upto_region 1 with fail
  obtain ⟨pb, hpb⟩ : ∃ n, n = w.heap.size := ⟨_, rfl⟩
  obtain ⟨rb, hrb⟩ : ∃ n, n = w.heap.size + 1 := ⟨_, rfl⟩
  generalize (w.alloc (.cells #[.int .i64 x.params, .int .i64 x.regs, .slice ba x.blocks.length bc] 52)).alloc (.cells #[.int .i64 0, .int .i64 0, .slice none 0 0] 52) = W1 at H2 ⊢
  have HR1 := Lib.hid (show Below w.heap.size w W1 ∧ W1.heap[pb]? = some (.cells #[.int .i64 x.params, .int .i64 x.regs, .slice ba x.blocks.length bc] 52 (0, 0)) ∧ W1.heap[rb]? = some (.cells #[.int .i64 0, .int .i64 0, .slice none 0 0] 52 (0, 0)) ∧ (pb = w.heap.size ∧ rb = w.heap.size + 1 ∧ W1.heap.size = w.heap.size + 2) from by rw [hpb, hrb]; exact ⟨H2.out.2.2.2, H2.out.1, H2.out.2.1, rfl, rfl, H2.out.2.2.1⟩)
  rw [← hrb, ← hpb]
  clear hpb hrb H2
  have HPL := Lib.hid (show pb < W1.heap.size ∧ rb < W1.heap.size from by have := HR1.out.2.2.2; omega)
  have k0 := cell_of_row _ _ 0 _ _ _ HR1.out.2.1
  have k1 := cell_of_row _ _ 1 _ _ _ HR1.out.2.1
  simp only [List.getElem?_toArray, List.getElem?_cons_zero, List.getElem?_cons_succ] at k0 k1
  have hba : Below W1.heap.size W1 (W1.alloc (.cells #[.int .i64 x.params, .int .i64 x.regs, .slice none 0 0] 52)) := (Below.refl _ _).alloc (Nat.le_refl _) _
  have HW := Lib.hid (show (W1.alloc (.cells #[.int .i64 x.params, .int .i64 x.regs, .slice none 0 0] 52)).heap[W1.heap.size]? = some (.cells #[.int .i64 x.params, .int .i64 x.regs, .slice none 0 0] 52 (0, 0)) ∧ Below W1.heap.size W1 (W1.alloc (.cells #[.int .i64 x.params, .int .i64 x.regs, .slice none 0 0] 52)) ∧ (W1.alloc (.cells #[.int .i64 x.params, .int .i64 x.regs, .slice none 0 0] 52)).heap.size = W1.heap.size + 1 from ⟨heap_alloc_new W1 _, hba, World.size_alloc _ _⟩)
  clear hba
  go_upto_region 2 with fail
  clear k0 k1
  obtain ⟨cb, hcb⟩ : ∃ n, n = W1.heap.size := ⟨_, rfl⟩
  generalize W1.alloc (.cells #[.int .i64 x.params, .int .i64 x.regs, .slice none 0 0] 52) = wc at HW ⊢
  have HLT := Lib.hid (show cb = W1.heap.size ∧ wc.heap.size = W1.heap.size + 1 from ⟨hcb, HW.out.2.2⟩)
  have HWC := Lib.hid (show wc.heap[cb]? = some (.cells #[.int .i64 x.params, .int .i64 x.regs, .slice none 0 0] 52 (0, 0)) ∧ Below W1.heap.size W1 wc from by rw [hcb]; exact ⟨HW.out.1, HW.out.2.1⟩)
  rw [← hcb]
  clear hcb HW
  go_wp2_with fail
  go_loopg [4] x.blocks.length (fun G i wr => ∃ (j : Nat) (oa : Option Addr) (oc : Nat), j + G = x.blocks.length ∧ i = .int .i64 j ∧ Hid (wr.heap[cb]? = some (.cells #[.int .i64 x.params, .int .i64 x.regs, .slice oa j oc] 52 (0, 0)) ∧ SepK 5 49 BlockK (fun k => wc.heap.size ≤ k) wr oa j oc (x.blocks.take j) ∧ Below W1.heap.size W1 wr ∧ wc.heap.size ≤ wr.heap.size))
  case atStart => exact ⟨0, none, 0, by omega, rfl, Lib.hid ⟨HWC.out.1, by simpa using SepK.nil, HWC.out.2, Nat.le_refl _⟩⟩
  case round =>
    obtain ⟨j, oa, oc, hj, rfl, HR⟩ := hrel
    have hpbr := (HR.out.2.2.1.block pb HPL.out.1).trans HR1.out.2.1
    have p2 := cell_of_row _ _ 2 _ _ _ hpbr
    simp only [List.getElem?_toArray, List.getElem?_cons_zero, List.getElem?_cons_succ] at p2
    have hbw : Below w.heap.size w wr := HR1.out.1.trans (HR.out.2.2.1.mono HR1.out.1.size)
    by_cases hlt : j < x.blocks.length
    · have hlti : (j : Int) < (x.blocks.length : Int) := by omega
      have hj0 : (0 : Int) ≤ (j : Int) := by omega
      obtain ⟨b, off, phis, ins, jump, jon, nx, pa, pc, ia, ic, na, nc, rfl, hx, c0, c1, c2, c3, c4, hRx⟩ := block_place HBR.out.2 hlt
      obtain ⟨y, hy⟩ : ∃ y : BlockD, y = ⟨phis, ins, jump, jon, nx⟩ := ⟨_, rfl⟩
      have hyf : phis = y.phis ∧ ins = y.ins ∧ jump = y.jump ∧ jon = y.jon ∧ nx = y.nx := by rw [hy]; exact ⟨rfl, rfl, rfl, rfl, rfl⟩
      rw [← hy] at hx hRx
      obtain ⟨rfl, rfl, rfl, rfl, rfl⟩ := hyf
      clear hy
      have HCC := Lib.hid (And.intro c0 (And.intro c1 (And.intro c2 (And.intro c3 c4))))
      have HX := Lib.hid hx
      have HB5 := Lib.hid ((Below.refl wr.heap.size wr).drew)
      have HCP := Lib.hid (HCC0.out [.slice pa y.phis.length pc, .slice ia y.ins.length ic, .int .i64 y.jump, .int .i64 y.jon, .slice na y.nx.length nc] y wr.drew (blockR_lasts _ _ _ _ hbw.drew hRx) (Nat.le_trans (szS_mem (List.mem_of_getElem? hx)) HS.out))
      have HKP := Lib.hid (show ∀ W, Below wr.heap.size wr W → (W.cell? ⟨cb, 2, none⟩ = some (.slice oa j oc) ∧ W.cell? ⟨pb, 2, none⟩ = some (.slice (some ⟨b, off, none⟩) x.blocks.length bc) ∧ W.cell? ⟨b, off + j * 5, none⟩ = some (.slice pa y.phis.length pc) ∧ W.cell? ⟨b, off + j * 5 + 1, none⟩ = some (.slice ia y.ins.length ic) ∧ W.cell? ⟨b, off + j * 5 + 2, none⟩ = some (.int .i64 y.jump) ∧ W.cell? ⟨b, off + j * 5 + 3, none⟩ = some (.int .i64 y.jon) ∧ W.cell? ⟨b, off + j * 5 + 4, none⟩ = some (.slice na y.nx.length nc)) from fun W hW =>
        ⟨cell_later hW (cell_of_row _ _ 2 _ _ _ HR.out.1), cell_later hW p2, cell_later hW (cell_later hbw c0), cell_later hW (cell_later hbw c1), cell_later hW (cell_later hbw c2), cell_later hW (cell_later hbw c3), cell_later hW (cell_later hbw c4)⟩)
      clear hx hRx c0 c1 c2 c3 c4 hpbr
      go_upto_region 5 with fail
      clear p2
      refine wp_region_L (S := (fun W => W.cell? ⟨cb, 2, none⟩ = some (.slice oa j oc) ∧ W.cell? ⟨pb, 2, none⟩ = some (.slice (some ⟨b, off, none⟩) x.blocks.length bc) ∧ W.cell? ⟨b, off + j * 5, none⟩ = some (.slice pa y.phis.length pc) ∧ W.cell? ⟨b, off + j * 5 + 1, none⟩ = some (.slice ia y.ins.length ic) ∧ W.cell? ⟨b, off + j * 5 + 2, none⟩ = some (.int .i64 y.jump) ∧ W.cell? ⟨b, off + j * 5 + 3, none⟩ = some (.int .i64 y.jon) ∧ W.cell? ⟨b, off + j * 5 + 4, none⟩ = some (.slice na y.nx.length nc))) (by kernel_rfl) ?_
      have hHeld := HKP.out _ ((Below.refl wr.heap.size wr).drew)
      generalize wr.drew = w5 at HB5 HCP hHeld ⊢
      refine wpAnyL_take 1 (i := 0) (oi := ⟨some 17, _, _, _, _, _⟩) (v := ?_) rfl (by kernel_rfl) (by kernel_rfl) (by kernel_rfl) (by kernel_rfl) (fun _ _ _ h => h) (Or.inl ⟨by rfl, ?_⟩) hHeld ?_
      rotate_left
      · (intro w hSw; (try dsimp only at hSw); go_simp; all_goals (try with_reducible rfl))
      (try simp only [Act.put, List.setIfInBounds_toArray, List.set_cons_zero, List.set_cons_succ])
      refine wpAnyL_take 9 (i := 1) (oi := ⟨some 18, _, _, _, _, _⟩) (v := ?_) rfl (by kernel_rfl) (by kernel_rfl) (by kernel_rfl) (by kernel_rfl) (fun _ _ _ h => h) (Or.inl ⟨by rfl, ?_⟩) hHeld ?_
      rotate_left
      · (intro w hSw; (try dsimp only at hSw); go_simp; all_goals (try with_reducible rfl))
      (try simp only [Act.put, List.setIfInBounds_toArray, List.set_cons_zero, List.set_cons_succ])
      refine wpAnyL_take 3 (i := 2) (oi := ⟨some 19, _, _, _, _, _⟩) (v := ?_) rfl (by kernel_rfl) (by kernel_rfl) (by kernel_rfl) (by kernel_rfl) (fun _ _ _ h => h) (Or.inl ⟨by rfl, ?_⟩) hHeld ?_
      rotate_left
      · (intro w hSw; (try dsimp only at hSw); go_simp; all_goals (try with_reducible rfl))
      (try simp only [Act.put, List.setIfInBounds_toArray, List.set_cons_zero, List.set_cons_succ])
      refine wpAnyL_take 5 (i := 3) (oi := ⟨some 20, _, _, _, _, _⟩) (v := ?_) rfl (by kernel_rfl) (by kernel_rfl) (by kernel_rfl) (by kernel_rfl) (fun _ _ _ h => h) (Or.inl ⟨by rfl, ?_⟩) hHeld ?_
      rotate_left
      · (intro w hSw; (try dsimp only at hSw); go_simp; all_goals (try with_reducible rfl))
      (try simp only [Act.put, List.setIfInBounds_toArray, List.set_cons_zero, List.set_cons_succ])
      refine wpAnyL_take 5 (i := 4) (oi := ⟨some 21, _, _, _, _, _⟩) (v := ?_) rfl (by kernel_rfl) (by kernel_rfl) (by kernel_rfl) (by kernel_rfl) (fun _ _ _ h => h) (Or.inl ⟨by rfl, ?_⟩) hHeld ?_
      rotate_left
      · (intro w hSw; (try dsimp only at hSw); go_simp; all_goals (try with_reducible rfl))
      (try simp only [Act.put, List.setIfInBounds_toArray, List.set_cons_zero, List.set_cons_succ])
      refine wpAnyL_take 6 (i := 5) (oi := ⟨some 22, _, _, _, _, _⟩) (v := ?_) rfl (by kernel_rfl) (by kernel_rfl) (by kernel_rfl) (by kernel_rfl) (fun _ _ _ h => h) (Or.inl ⟨by rfl, ?_⟩) hHeld ?_
      rotate_left
      · (intro w hSw; (try dsimp only at hSw); go_simp; all_goals (try with_reducible rfl))
      (try simp only [Act.put, List.setIfInBounds_toArray, List.set_cons_zero, List.set_cons_succ])
      refine wpAnyL_take 7 (i := 6) (oi := ⟨some 23, _, _, _, _, _⟩) (v := ?_) rfl (by kernel_rfl) (by kernel_rfl) (by kernel_rfl) (by kernel_rfl) (fun _ _ _ h => h) (Or.inl ⟨by rfl, ?_⟩) hHeld ?_
      rotate_left
      · (intro w hSw; (try dsimp only at hSw); go_simp; all_goals (try with_reducible rfl))
      (try simp only [Act.put, List.setIfInBounds_toArray, List.set_cons_zero, List.set_cons_succ])
      refine wpAnyL_ready (rs := [7]) (by kernel_rfl) (by simp) ?_
      refine AllReadyL.cons (o := ⟨some 24, _, _, _, _, _⟩) rfl (fun K hK => ?_) AllReadyL.nil
      go_simp
      go_at_call 48
      refine HCP.out.mono ?_
      rintro e w7 ⟨cs', rfl, hK7, hb7⟩
      have hK7' := blockK_sets.here hK7
      obtain ⟨pa2, pc2, ia2, ic2, na2, nc2, S1, S2, S3, hcs, -⟩ := hK7
      subst hcs
      have HB7 := Lib.hid (show Below wr.heap.size wr w7 ∧ BlockK (fun k => w5.heap.size ≤ k ∧ k < w7.heap.size) w7 [.slice pa2 y.phis.length pc2, .slice ia2 y.ins.length ic2, .int .i64 y.jump, .int .i64 y.jon, .slice na2 y.nx.length nc2] y ∧ wr.heap.size ≤ w5.heap.size from ⟨HB5.out.trans (hb7.mono HB5.out.size), hK7', HB5.out.size⟩)
      clear hK7' hb7
      have hHeld2 := HKP.out _ HB7.out.1
      refine hK.out _ _ (fun _ => hHeld2) ?_
      clear hK K hHeld
      have hHeld := hHeld2
      clear hHeld2
      (try simp only [Act.put, List.setIfInBounds_toArray, List.set_cons_zero, List.set_cons_succ])
      refine wpAnyL_ready (rs := [8]) (by kernel_rfl) (by simp) ?_
      refine AllReadyL.cons (o := ⟨some 25, _, _, _, _, _⟩) rfl (fun K hK => ?_) AllReadyL.nil
      go_simp
      have HB8 := Lib.hid (show Below wr.heap.size wr (w7.alloc (.cells #[.slice pa2 y.phis.length pc2, .slice ia2 y.ins.length ic2, .int .i64 y.jump, .int .i64 y.jon, .slice na2 y.nx.length nc2] 49)) ∧ BlockK (fun k => w5.heap.size ≤ k ∧ k < w7.heap.size) (w7.alloc (.cells #[.slice pa2 y.phis.length pc2, .slice ia2 y.ins.length ic2, .int .i64 y.jump, .int .i64 y.jon, .slice na2 y.nx.length nc2] 49)) [.slice pa2 y.phis.length pc2, .slice ia2 y.ins.length ic2, .int .i64 y.jump, .int .i64 y.jon, .slice na2 y.nx.length nc2] y ∧ (w7.alloc (.cells #[.slice pa2 y.phis.length pc2, .slice ia2 y.ins.length ic2, .int .i64 y.jump, .int .i64 y.jon, .slice na2 y.nx.length nc2] 49)).heap.size = w7.heap.size + 1 ∧ RowAt (w7.alloc (.cells #[.slice pa2 y.phis.length pc2, .slice ia2 y.ins.length ic2, .int .i64 y.jump, .int .i64 y.jon, .slice na2 y.nx.length nc2] 49)) (some ⟨w7.heap.size, 0, none⟩) [.slice pa2 y.phis.length pc2, .slice ia2 y.ins.length ic2, .int .i64 y.jump, .int .i64 y.jon, .slice na2 y.nx.length nc2] from by
        have hba : Below w7.heap.size w7 (w7.alloc (.cells #[.slice pa2 y.phis.length pc2, .slice ia2 y.ins.length ic2, .int .i64 y.jump, .int .i64 y.jon, .slice na2 y.nx.length nc2] 49)) := (Below.refl _ _).alloc (Nat.le_refl _) _
        exact ⟨HB7.out.1.trans (hba.mono HB7.out.1.size), blockK_sets.below hba HB7.out.2.1, World.size_alloc _ _, .inr ⟨_, _, rfl, fun i v hv => by (rw [cell_of_row _ _ (0 + i) _ _ _ (heap_alloc_new w7 _)]); simpa using hv⟩⟩)
      have hHeld2 := HKP.out _ HB8.out.1
      refine hK.out _ _ (fun _ => hHeld2) ?_
      clear hK K hHeld
      have hHeld := hHeld2
      clear hHeld2
      (try simp only [Act.put, List.setIfInBounds_toArray, List.set_cons_zero, List.set_cons_succ])
      generalize w7.alloc (.cells #[.slice pa2 y.phis.length pc2, .slice ia2 y.ins.length ic2, .int .i64 y.jump, .int .i64 y.jon, .slice na2 y.nx.length nc2] 49) = w8 at HB8 hHeld ⊢
      generalize hz7 : w7.heap.size = z7 at HB8 ⊢
      have HZ7 := Lib.hid (show wr.heap.size ≤ z7 ∧ wr.heap.size ≤ w5.heap.size from by rw [← hz7]; exact ⟨HB7.out.1.size, HB7.out.2.2⟩)
      clear hz7
      obtain ⟨cells, G, hrows⟩ := (HR.out.2.1.here blockK_sets).below blockK_sets HB8.out.1
      have HRW := Lib.hid hrows
      clear hrows
      refine wpAnyL_ready (rs := [9]) (by kernel_rfl) (by simp) ?_
      refine AllReadyL.cons (o := ⟨some 26, _, _, _, _, _⟩) rfl (fun K hK => ?_) AllReadyL.nil
      refine step_app_block rfl (.tmp 18) (.tmp 25) rfl 0 _ j _ rfl HRW.out.own _ 1 [.slice pa2 y.phis.length pc2, .slice ia2 y.ins.length ic2, .int .i64 y.jump, .int .i64 y.jon, .slice na2 y.nx.length nc2] rfl HB8.out.2.2.2 rfl (by intro u hu; (simp only [List.mem_cons, List.not_mem_nil, or_false] at hu); rcases hu with rfl | rfl | rfl | rfl | rfl <;> rfl) (by omega) (Nat.zero_le _) ?_
      intro a9 c9 w9 hown9 hg9 hlies9
      have HP9 := Lib.hid (show SepK 5 49 BlockK (fun k => wc.heap.size ≤ k) w9 a9 (j + 1) c9 (x.blocks.take j ++ [y]) ∧ Turned (fun k => wc.heap.size ≤ k) wr w9 ∧ Below W1.heap.size W1 w9 from by
        have ht : Turned (fun k => wc.heap.size ≤ k) wr w9 := (turned_of_below HB8.out.1 (fun k h1 h2 => by omega)).trans (turned_of_grown hg9 (fun k hk => (HRW.out.row k hk).1))
        exact ⟨HRW.out.push blockK_sets HB8.out.2.1 hown9 hg9 hlies9 (fun k hk => by have := HB8.out.2.2.1; have := HZ7.out; have := HR.out.2.2.2; refine ⟨by show _ ≤ _; omega, by omega, fun h => by have := h.2; omega⟩) (fun k hk => by have := HB8.out.1.size; exact ⟨hk.1, by omega⟩) (by have := HB8.out.1.size; have := HR.out.2.2.2; show _ ≤ _; omega), ht, HR.out.2.2.1.trans (ht.below (B := W1.heap.size) HR.out.2.2.1.size (fun k hk => by have := HLT.out; omega))⟩)
      have HC9 := Lib.hid (show w9.heap[cb]? = some (.cells #[.int .i64 x.params, .int .i64 x.regs, .slice oa j oc] 52 (0, 0)) from (HP9.out.2.1.block cb (Array.getElem?_eq_some_iff.1 HR.out.1).1 (fun h => by have := HLT.out; omega)).trans HR.out.1)
      clear hown9 hg9 hlies9
      have hHeld2 := (show (fun W => W.cell? ⟨cb, 2, none⟩ = some (.slice oa j oc) ∧ W.cell? ⟨pb, 2, none⟩ = some (.slice (some ⟨b, off, none⟩) x.blocks.length bc) ∧ W.cell? ⟨b, off + j * 5, none⟩ = some (.slice pa y.phis.length pc) ∧ W.cell? ⟨b, off + j * 5 + 1, none⟩ = some (.slice ia y.ins.length ic) ∧ W.cell? ⟨b, off + j * 5 + 2, none⟩ = some (.int .i64 y.jump) ∧ W.cell? ⟨b, off + j * 5 + 3, none⟩ = some (.int .i64 y.jon) ∧ W.cell? ⟨b, off + j * 5 + 4, none⟩ = some (.slice na y.nx.length nc)) w9 from ⟨cell_of_row _ _ 2 _ _ _ HC9.out, cell_of_row _ _ 2 _ _ _ ((HP9.out.2.2.block pb HPL.out.1).trans HR1.out.2.1), cell_later (HR1.out.1.trans (HP9.out.2.2.mono HR1.out.1.size)) HCC.out.1, cell_later (HR1.out.1.trans (HP9.out.2.2.mono HR1.out.1.size)) HCC.out.2.1, cell_later (HR1.out.1.trans (HP9.out.2.2.mono HR1.out.1.size)) HCC.out.2.2.1, cell_later (HR1.out.1.trans (HP9.out.2.2.mono HR1.out.1.size)) HCC.out.2.2.2.1, cell_later (HR1.out.1.trans (HP9.out.2.2.mono HR1.out.1.size)) HCC.out.2.2.2.2⟩)
      refine hK.out _ _ (fun _ => hHeld2) ?_
      clear hK K hHeld
      have hHeld := hHeld2
      clear hHeld2
      (try simp only [Act.put, List.setIfInBounds_toArray, List.set_cons_zero, List.set_cons_succ])
      refine wpAnyL_take 11 (i := 10) (oi := ⟨some 27, _, _, _, _, _⟩) (v := ?_) rfl (by kernel_rfl) (by kernel_rfl) (by kernel_rfl) (by kernel_rfl) (fun _ _ _ h => h) (Or.inl ⟨by rfl, ?_⟩) hHeld ?_
      rotate_left
      · (intro w hSw; (try dsimp only at hSw); go_simp; all_goals (try with_reducible rfl))
      (try simp only [Act.put, List.setIfInBounds_toArray, List.set_cons_zero, List.set_cons_succ])
      refine wpAnyL_ready (rs := [11]) (by kernel_rfl) (by simp) ?_
      refine AllReadyL.cons (o := ⟨none, _, _, _, _, _⟩) rfl (fun K hK => ?_) AllReadyL.nil
      have y0 := frozen_of_row _ _ 2 _ _ HC9.out
      have r0 := cell_of_row _ _ 2 _ _ _ HC9.out
      simp only [List.getElem?_toArray, List.getElem?_cons_zero, List.getElem?_cons_succ] at r0
      go_simp
      clear y0 r0
      refine hK.out _ _ (lastL (by kernel_rfl)) ?_
      clear hK K hHeld
      (try simp only [Act.put, List.setIfInBounds_toArray, List.set_cons_zero, List.set_cons_succ])
      refine wpAnyL_done (by kernel_rfl) ?_ _
      have HFIN := Lib.hid (show (w9.setCell ⟨cb, 2, none⟩ (.slice a9 (j + 1) c9)).heap[cb]? = some (.cells #[.int .i64 x.params, .int .i64 x.regs, .slice a9 (j + 1) c9] 52 (0, 0)) ∧ SepK 5 49 BlockK (fun k => wc.heap.size ≤ k) (w9.setCell ⟨cb, 2, none⟩ (.slice a9 (j + 1) c9)) a9 (j + 1) c9 (x.blocks.take (j + 1)) ∧ Below W1.heap.size W1 (w9.setCell ⟨cb, 2, none⟩ (.slice a9 (j + 1) c9)) ∧ wc.heap.size ≤ (w9.setCell ⟨cb, 2, none⟩ (.slice a9 (j + 1) c9)).heap.size from by
        have hts := turned_store w9 cb 2 (.slice a9 (j + 1) c9)
        have hl := HLT.out
        refine ⟨(heap_setCell_same w9 cb 2 _ _ _ HC9.out).trans rfl, ?_, HP9.out.2.2.setCell (show W1.heap.size ≤ cb by omega) _, by have := HP9.out.2.1.size; have := HR.out.2.2.2; rw [World.size_setCell]; omega⟩
        rw [take_succ_of HX.out]
        exact HP9.out.1.turned blockK_sets hts (fun k _ h1 h2 => by have h1 : wc.heap.size ≤ k := h1; have h2 : k = cb := h2; omega))
      go_wp2
      go_roundg (x.blocks.length - (j + 1))
      case measure => omega
      case rel => exact ⟨j + 1, _, _, by omega, by go_num, HFIN⟩
    · obtain rfl : j = x.blocks.length := by omega
      have hsep := HR.out.2.1
      rw [List.take_length] at hsep
      have hrbr := (HR.out.2.2.1.block rb HPL.out.2).trans HR1.out.2.2.1
      have HRB := Lib.hid hrbr
      have HFIN := Lib.hid (show Below w.heap.size w (wr.setCells rb 0 [.int .i64 x.params, .int .i64 x.regs, .slice oa x.blocks.length oc]) ∧ (wr.setCells rb 0 [.int .i64 x.params, .int .i64 x.regs, .slice oa x.blocks.length oc]).heap[rb]? = some (.cells (List.toArray [.int .i64 x.params, .int .i64 x.regs, .slice oa x.blocks.length oc]) 52 (0, 0)) ∧ CodeK (fun k => w.heap.size ≤ k) (wr.setCells rb 0 [.int .i64 x.params, .int .i64 x.regs, .slice oa x.blocks.length oc]) [.int .i64 x.params, .int .i64 x.regs, .slice oa x.blocks.length oc] x from by
        have ht := turned_setCells (g := rb) [.int .i64 x.params, .int .i64 x.regs, .slice oa x.blocks.length oc] wr 0
        have hl := HLT.out
        have h1 := HR1.out.2.2.2
        refine ⟨hbw.trans (ht.below (B := w.heap.size) hbw.size (fun k hk => by have hk : k = rb := hk; omega)), ?_, oa, oc, rfl, (hsep.turned blockK_sets ht (fun k _ h1 h2 => by have h1 : wc.heap.size ≤ k := h1; have h2 : k = rb := h2; omega)).mono (fun k h => by have h : wc.heap.size ≤ k := h; show w.heap.size ≤ k; omega)⟩
        have := heap_setCells_mid (w := wr) (A := []) (B := [.int .i64 0, .int .i64 0, .slice none 0 0]) (C := []) (vs := [.int .i64 x.params, .int .i64 x.regs, .slice oa x.blocks.length oc]) (o := 0) rfl (by simp) (by simpa using HRB.out)
        simpa using this)
      have q0 := cell_of_row _ _ 0 _ _ _ HR.out.1
      have q1 := cell_of_row _ _ 1 _ _ _ HR.out.1
      have q2 := cell_of_row _ _ 2 _ _ _ HR.out.1
      have r0 := cell_of_row _ _ 0 _ _ _ hrbr
      have r1 := cell_of_row _ _ 1 _ _ _ hrbr
      have r2 := cell_of_row _ _ 2 _ _ _ hrbr
      have y0 := frozen_of_row _ _ 0 _ _ hrbr
      have y1 := frozen_of_row _ _ 1 _ _ hrbr
      have y2 := frozen_of_row _ _ 2 _ _ hrbr
      simp only [List.getElem?_toArray, List.getElem?_cons_zero, List.getElem?_cons_succ] at q0 q1 q2 r0 r1 r2
      clear hrbr hpbr hsep
      go_wp2
      refine bodyPost_ret (results_cell_row rfl _ _ rb 52 (List.toArray [.int .i64 x.params, .int .i64 x.regs, .slice oa x.blocks.length oc]) (0, 0) _ rfl ?_ Tryz.underlying52 rfl (by kernel_rfl)) rfl ?_
      · exact HFIN.out.2.1
      exact ⟨_, rfl, HFIN.out.2.2, HFIN.out.1⟩

end Go.Proofs.YtonlidgmfmgcmaaGreat

namespace Go.Proofs.YtonlidgmfmgcmaaGreat
open Go.RowKit
set_option linter.unusedVariables false

theorem setCells3d (w : World) (g : Nat) (v0 v1 v2 : Value) : w.setCells g 0 [v0, v1, v2] = ((w.setCell ⟨g, 0, none⟩ v0).setCell ⟨g, 1, none⟩ v1).setCell ⟨g, 2, none⟩ v2 := rfl
section
variable {w1 w5 w6 w7 : World} {cs : List Value} {c : CodeD} {cb : Nat}
/-- The copy's block is made behind the call. -/
theorem copy_after (hb : Below w1.heap.size w1 w7) (hk : CodeK (fun k => w5.heap.size ≤ k ∧ k < w7.heap.size) w7 cs c) (h5 : w1.heap.size ≤ w5.heap.size) (h7 : w5.heap.size ≤ w7.heap.size) :
    (w7.alloc (.cells #[.int .i64 0, .int .i64 0, .slice none 0 0] 52)).heap[w7.heap.size]? = some (.cells #[.int .i64 0, .int .i64 0, .slice none 0 0] 52 (0, 0)) ∧ CodeK (fun k => w1.heap.size ≤ k ∧ k ≠ w7.heap.size ∧ k < (w7.alloc (.cells #[.int .i64 0, .int .i64 0, .slice none 0 0] 52)).heap.size) (w7.alloc (.cells #[.int .i64 0, .int .i64 0, .slice none 0 0] 52)) cs c ∧ (w1.heap.size ≤ w7.heap.size ∧ w7.heap.size < (w7.alloc (.cells #[.int .i64 0, .int .i64 0, .slice none 0 0] 52)).heap.size) ∧ Below w1.heap.size w1 (w7.alloc (.cells #[.int .i64 0, .int .i64 0, .slice none 0 0] 52)) := by
  have hba : Below w7.heap.size w7 (w7.alloc (.cells #[.int .i64 0, .int .i64 0, .slice none 0 0] 52)) := (Below.refl _ _).alloc (Nat.le_refl _) _
  have hs := World.size_alloc w7 (.cells #[.int .i64 0, .int .i64 0, .slice none 0 0] 52)
  exact ⟨heap_alloc_new w7 _, codeK_sets.mono (fun k h => ⟨by omega, by omega, by omega⟩) (codeK_sets.below hba hk), ⟨by omega, by omega⟩, hb.trans (hba.mono hb.size)⟩
theorem copy_before (hb : Below w1.heap.size w1 w5) : (w5.alloc (.cells #[.int .i64 0, .int .i64 0, .slice none 0 0] 52)).heap[w5.heap.size]? = some (.cells #[.int .i64 0, .int .i64 0, .slice none 0 0] 52 (0, 0)) ∧ Below w1.heap.size w1 (w5.alloc (.cells #[.int .i64 0, .int .i64 0, .slice none 0 0] 52)) ∧ w1.heap.size ≤ w5.heap.size := by
  have hba : Below w5.heap.size w5 (w5.alloc (.cells #[.int .i64 0, .int .i64 0, .slice none 0 0] 52)) := (Below.refl _ _).alloc (Nat.le_refl _) _
  exact ⟨heap_alloc_new w5 _, hb.trans (hba.mono hb.size), hb.size⟩
theorem copy_behind (h : w6.heap[cb]? = some (.cells #[.int .i64 0, .int .i64 0, .slice none 0 0] 52 (0, 0)) ∧ Below w1.heap.size w1 w6 ∧ w1.heap.size ≤ cb) (hk : CodeK (fun k => w6.heap.size ≤ k ∧ k < w7.heap.size) w7 cs c) (hb : Below w6.heap.size w6 w7) :
    w7.heap[cb]? = some (.cells #[.int .i64 0, .int .i64 0, .slice none 0 0] 52 (0, 0)) ∧ CodeK (fun k => w1.heap.size ≤ k ∧ k ≠ cb ∧ k < w7.heap.size) w7 cs c ∧ (w1.heap.size ≤ cb ∧ cb < w7.heap.size) ∧ Below w1.heap.size w1 w7 := by
  have hl := (Array.getElem?_eq_some_iff.1 h.1).1
  have h1 := h.2.1.size
  have h2 := hb.size
  exact ⟨(hb.block cb hl).trans h.1, codeK_sets.mono (fun k h => ⟨by omega, by omega, by omega⟩) hk, ⟨h.2.2, by omega⟩, h.2.1.trans (hb.mono h1)⟩
theorem copy_put {a' : Option Addr} {c' : Nat} (h1 : w7.heap[cb]? = some (.cells #[.int .i64 0, .int .i64 0, .slice none 0 0] 52 (0, 0))) (h2 : CodeK (fun k => w1.heap.size ≤ k ∧ k ≠ cb ∧ k < w7.heap.size) w7 [.int .i64 c.params, .int .i64 c.regs, .slice a' c.blocks.length c'] c) (h3 : w1.heap.size ≤ cb ∧ cb < w7.heap.size) (h4 : Below w1.heap.size w1 w7) :
    (w7.setCells cb 0 [.int .i64 c.params, .int .i64 c.regs, .slice a' c.blocks.length c']).heap[cb]? = some (.cells #[.int .i64 c.params, .int .i64 c.regs, .slice a' c.blocks.length c'] 52 (0, 0)) ∧ SepK 5 49 BlockK (fun k => w1.heap.size ≤ k ∧ k ≠ cb ∧ k < (w7.setCells cb 0 [.int .i64 c.params, .int .i64 c.regs, .slice a' c.blocks.length c']).heap.size) (w7.setCells cb 0 [.int .i64 c.params, .int .i64 c.regs, .slice a' c.blocks.length c']) a' c.blocks.length c' c.blocks ∧ (w1.heap.size ≤ cb ∧ cb < (w7.setCells cb 0 [.int .i64 c.params, .int .i64 c.regs, .slice a' c.blocks.length c']).heap.size) ∧ Below w1.heap.size w1 (w7.setCells cb 0 [.int .i64 c.params, .int .i64 c.regs, .slice a' c.blocks.length c']) := by
  have ht := turned_setCells (g := cb) [.int .i64 c.params, .int .i64 c.regs, .slice a' c.blocks.length c'] w7 0
  have hsz : (w7.setCells cb 0 [.int .i64 c.params, .int .i64 c.regs, .slice a' c.blocks.length c']).heap.size = w7.heap.size := heap_setCells_size _ _ _
  obtain ⟨ba, bc, he, hs⟩ := h2
  simp only [List.cons.injEq, Value.slice.injEq, and_true, true_and] at he
  obtain ⟨rfl, rfl⟩ := he
  refine ⟨?_, (hs.turned blockK_sets ht (fun k _ h5 h6 => h5.2.1 h6)).mono (fun k h => ⟨h.1, h.2.1, by omega⟩), ⟨h3.1, by omega⟩, h4.trans (ht.below (B := w1.heap.size) h4.size (fun k hk => by have hk : k = cb := hk; omega))⟩
  have := heap_setCells_mid (w := w7) (A := []) (B := [.int .i64 0, .int .i64 0, .slice none 0 0]) (C := []) (vs := [.int .i64 c.params, .int .i64 c.regs, .slice a' c.blocks.length c']) (o := 0) rfl (by simp) (by simpa using h1)
  simpa using this
theorem drop_push {us : List CodeD} {L : List Int} {W1 wl wo wp wc w9 : World} {ob j cb m : Nat} {oa a9 : Option Addr} {oc c9 : Nat} {cells : List (List Value)} {G : Nat → Nat → Prop} {d : List Value} {X : Obj}
    (HR : wo.heap[ob]? = some (.cells #[.slice oa j oc] 30 (0, 0)) ∧ SepK 3 52 CodeK (fun k => wl.heap.size ≤ k) wo oa j oc ((L.take j).map (dropAt us L)) ∧ Turned (fun k => k = ob ∨ wl.heap.size ≤ k) wl wo)
    (HLO : wl.heap.size ≤ wo.heap.size ∧ ob < wl.heap.size ∧ W1.heap.size ≤ ob) (hz : L[j]? = some (m : Int))
    (HO : wp.heap[ob]? = some (.cells #[.slice oa j oc] 30 (0, 0)) ∧ (wp.alloc X).heap[ob]? = some (.cells #[.slice oa j oc] 30 (0, 0)) ∧ Below wo.heap.size wo (wp.alloc X) ∧ (wp.alloc X).heap.size = wp.heap.size + 1 ∧ wo.heap.size ≤ wp.heap.size)
    (HY : CodeK (fun k => wo.heap.size ≤ k ∧ k ≠ cb ∧ k < wc.heap.size) (wp.alloc X) d (dropAt us L m)) (HC : wc.heap.size ≤ wp.heap.size)
    (h : SepRows 3 52 CodeK (fun k => wl.heap.size ≤ k ∧ k < wo.heap.size) (wp.alloc X) oa j oc ((L.take j).map (dropAt us L)) cells G)
    (hown : w9.ownsRow 0 52 3 (.slice a9 (j + 1) c9) (j + 1) (cells.flatten ++ d)) (hg : (wp.alloc X).grownBy w9 (Value.slice oa j oc).ownBlock)
    (hl : (Value.slice a9 (j + 1) c9).ownBlock = (Value.slice oa j oc).ownBlock ∨ (Value.slice a9 (j + 1) c9).ownBlock = some (wp.alloc X).heap.size) :
    w9.heap[ob]? = some (.cells #[.slice oa j oc] 30 (0, 0)) ∧ SepK 3 52 CodeK (fun k => wl.heap.size ≤ k) w9 a9 (j + 1) c9 ((L.take (j + 1)).map (dropAt us L)) ∧ Turned (fun k => k = ob ∨ wl.heap.size ≤ k) wl w9 := by
  have ht : Turned (fun k => wl.heap.size ≤ k ∧ k < wo.heap.size) (wp.alloc X) w9 := turned_of_grown hg (fun k hk => h.row k hk)
  have hol : ob < (wp.alloc X).heap.size := by omega
  have h1 : Turned (fun k => k = ob ∨ wl.heap.size ≤ k) wo (wp.alloc X) := turned_of_below HO.2.2.1 (fun k h1 h2 => by omega)
  refine ⟨(ht.block ob hol (fun h => by have := h.1; omega)).trans HO.2.1, ?_, HR.2.2.trans (h1.trans (ht.mono (fun k hk => .inr hk.1)))⟩
  rw [take_succ_of hz, List.map_append]
  exact h.push codeK_sets HY hown hg hl (fun k hk => ⟨by show _ ≤ _; omega, by omega, fun h => by omega⟩) (fun k hk => ⟨hk.1, by omega⟩) (by show _ ≤ _; omega)
theorem drop_store {wl w9 : World} {ob j n : Nat} {oa a9 : Option Addr} {oc c9 : Nat} {xs : List CodeD}
    (H : w9.heap[ob]? = some (.cells #[.slice oa j oc] 30 (0, 0)) ∧ SepK 3 52 CodeK (fun k => wl.heap.size ≤ k) w9 a9 n c9 xs ∧ Turned (fun k => k = ob ∨ wl.heap.size ≤ k) wl w9) (ho : ob < wl.heap.size) :
    (w9.setCell ⟨ob, 0, none⟩ (.slice a9 n c9)).heap[ob]? = some (.cells #[.slice a9 n c9] 30 (0, 0)) ∧ SepK 3 52 CodeK (fun k => wl.heap.size ≤ k) (w9.setCell ⟨ob, 0, none⟩ (.slice a9 n c9)) a9 n c9 xs ∧ Turned (fun k => k = ob ∨ wl.heap.size ≤ k) wl (w9.setCell ⟨ob, 0, none⟩ (.slice a9 n c9)) := by
  have hts := turned_store w9 ob 0 (.slice a9 n c9)
  exact ⟨(heap_setCell_same w9 ob 0 _ _ _ H.1).trans rfl, H.2.1.turned codeK_sets hts (fun k _ h1 h2 => by have h1 : wl.heap.size ≤ k := h1; have h2 : k = ob := h2; omega), H.2.2.trans (hts.mono (fun k h => .inl h))⟩
end

set_option maxRecDepth 100000 in
set_option maxHeartbeats 8000000 in
theorem specDropCodes_any (hC : CopyBlkC) (us : List CodeD) (ua : Option Addr) (uc : Nat) (hsz : szS szCodeD us ≤ 1048576) (w : World) (hU : SliceRd 3 CodeR w ua us.length us) :
    Calls Tryz.prog 14 #[.agg #[.slice ua us.length uc]] w fun e w' => ∃ (a : Option Addr) (c : Nat), e = .returned (.tuple #[.agg (List.toArray [.slice a (dropP us).length c]), .bool (unitB us)]) ∧ SepK 3 52 CodeK (fun k => w.heap.size ≤ k) w' a (dropP us).length c (dropP us) ∧ Below w.heap.size w w' := by
  have H2 := Lib.hid (two_rows w (.cells #[.slice ua us.length uc] 30) (.cells #[.slice none 0 0] 30))
  have HU := Lib.hid (And.intro hU hsz)
  have HCB := Lib.hid hC
  obtain ⟨R, hR⟩ : ∃ R, R = dropP us := ⟨_, rfl⟩
  obtain ⟨B, hB⟩ : ∃ B, B = unitB us := ⟨_, rfl⟩
  rw [← hR, ← hB]
  have HRB := Lib.hid (And.intro hR hB)
  clear hU hsz hR hB hC
  go_enter Tryz.func14, Tryz.ntmps14
  go_upto_region 1 with fail
  obtain ⟨pb, hpb⟩ : ∃ n, n = w.heap.size := ⟨_, rfl⟩
  obtain ⟨rb, hrb⟩ : ∃ n, n = w.heap.size + 1 := ⟨_, rfl⟩
  generalize (w.alloc (.cells #[.slice ua us.length uc] 30)).alloc (.cells #[.slice none 0 0] 30) = W1 at H2 ⊢
  have HR1 := Lib.hid (show Below w.heap.size w W1 ∧ W1.heap[pb]? = some (.cells #[.slice ua us.length uc] 30 (0, 0)) ∧ W1.heap[rb]? = some (.cells #[.slice none 0 0] 30 (0, 0)) ∧ pb = w.heap.size ∧ rb = w.heap.size + 1 ∧ W1.heap.size = w.heap.size + 2 from by rw [hpb, hrb]; exact ⟨H2.out.2.2.2, H2.out.1, H2.out.2.1, rfl, rfl, H2.out.2.2.1⟩)
  rw [← hrb, ← hpb]
  clear hpb hrb H2
  have HPL := Lib.hid (show pb < W1.heap.size ∧ rb < W1.heap.size from by have := HR1.out; omega)
  have k0 := cell_of_row _ _ 0 _ _ _ HR1.out.2.1
  simp only [List.getElem?_toArray, List.getElem?_cons_zero] at k0
  have HV := Lib.hid (specUnitValid_any us ua uc HU.out.2 W1 (HU.out.1.later codeR_lasts HR1.out.1))
  go_wp2_with fail
  refine HV.out.mono ?_
  rw [← HRB.out.2]
  clear k0
  rintro e w1 ⟨rfl, hb1⟩
  have HW := Lib.hid (show Below W1.heap.size W1 w1 from hb1)
  have HRW := Lib.hid (show ∀ W, Below W1.heap.size W1 W → W.heap[pb]? = some (.cells #[.slice ua us.length uc] 30 (0, 0)) ∧ W.heap[rb]? = some (.cells #[.slice none 0 0] 30 (0, 0)) ∧ Below w.heap.size w W from fun W hW => ⟨(hW.block pb HPL.out.1).trans HR1.out.2.1, (hW.block rb HPL.out.2).trans HR1.out.2.2.1, HR1.out.1.trans (hW.mono HR1.out.1.size)⟩)
  clear hb1 HV
  cases hv : B with
  | false =>
    have HE := Lib.hid (show R = [] from by rw [HRB.out.1]; exact dropP_bad (by rw [← HRB.out.2]; exact hv))
    have HBV := Lib.hid hv
    clear hv
    have r0 := cell_of_row _ _ 0 _ _ _ (HRW.out _ HW.out).2.1
    have y0 := frozen_of_row _ _ 0 _ _ (HRW.out _ HW.out).2.1
    simp only [List.getElem?_toArray, List.getElem?_cons_zero] at r0
    go_wp2
    refine bodyPost_ret (results_cellR rfl _ _ rb 30 (List.toArray [.slice none 0 0]) (0, 0) _ rfl ?_ Tryz.underlying30 rfl (by kernel_rfl)) rfl ?_
    · exact (heap_setCell_same w1 rb 0 _ _ _ (HRW.out _ HW.out).2.1).trans rfl
    rw [HE.out, HBV.out]
    exact ⟨none, 0, rfl, SepK.nil, (HRW.out _ HW.out).2.2.setCell (by have := HR1.out; show w.heap.size ≤ rb; omega) _⟩
  | true =>
    have HCN := Lib.hid (specCodesNeeded_any us ua uc HU.out.2 w1 (HU.out.1.later codeR_lasts (HRW.out _ HW.out).2.2))
    have HLN := Lib.hid (show (cnP us).length ≤ 1048576 from Nat.le_trans (cnP_len us) (Nat.le_trans (szS_len szCodeD us) HU.out.2))
    have HRL := Lib.hid (show R = (cnP us).map (dropAt us (cnP us)) from HRB.out.1)
    have HBV := Lib.hid hv
    have k0 := cell_of_row _ _ 0 _ _ _ (HRW.out _ HW.out).1
    simp only [List.getElem?_toArray, List.getElem?_cons_zero] at k0
    clear hv
    go_wp2_with fail
    refine HCN.out.mono ?_
    rintro e w2 ⟨a2, c2, rfl, hown2, hb2⟩
    clear k0 HCN
    have HMEM := Lib.hid (fun k (h : k ∈ cnP us) => cnP_at h)
    obtain ⟨L, hL⟩ : ∃ L, L = cnP us := ⟨_, rfl⟩
    rw [← hL] at hown2 HLN HRL HMEM ⊢
    clear hL
    have hba : Below w2.heap.size w2 (w2.alloc (.cells #[.slice none 0 0] 30)) := (Below.refl _ _).alloc (Nat.le_refl _) _
    have HL3 := Lib.hid (show Below W1.heap.size W1 (w2.alloc (.cells #[.slice none 0 0] 30)) ∧ ((w2.alloc (.cells #[.slice none 0 0] 30)).ownsRow w1.heap.size 3 1 (.slice a2 L.length c2) L.length (L.map (Value.int .i64)) ∧ ∀ k, (Value.slice a2 L.length c2).ownBlock = some k → k < w2.heap.size) ∧ (w2.alloc (.cells #[.slice none 0 0] 30)).heap[w2.heap.size]? = some (.cells #[.slice none 0 0] 30 (0, 0)) ∧ (W1.heap.size ≤ w2.heap.size ∧ (w2.alloc (.cells #[.slice none 0 0] 30)).heap.size = w2.heap.size + 1) from by
      have h12 := HW.out.trans (hb2.mono HW.out.size)
      exact ⟨h12.trans (hba.mono h12.size), ⟨ownsRow_below hown2 hba, fun k hk => (hown2.lt k hk).2⟩, heap_alloc_new w2 _, h12.size, World.size_alloc _ _⟩)
    clear hown2 hb2 hba
    have hLn := HLN.out
    go_upto_region 5 with fail
    obtain ⟨ob, hob⟩ : ∃ n, n = w2.heap.size := ⟨_, rfl⟩
    generalize w2.alloc (.cells #[.slice none 0 0] 30) = wl at HL3 ⊢
    rw [← hob] at HL3 ⊢
    clear hob
    go_wp2_with fail
    go_loopg [6] L.length (fun G i wr => ∃ (j : Nat) (oa : Option Addr) (oc : Nat), j + G = L.length ∧ i = .int .i64 j ∧ Hid (wr.heap[ob]? = some (.cells #[.slice oa j oc] 30 (0, 0)) ∧ SepK 3 52 CodeK (fun k => wl.heap.size ≤ k) wr oa j oc ((L.take j).map (dropAt us L)) ∧ Turned (fun k => k = ob ∨ wl.heap.size ≤ k) wl wr))
    case atStart => exact ⟨0, none, 0, by omega, rfl, Lib.hid ⟨HL3.out.2.2.1, by simpa using SepK.nil, Turned.refl _ _⟩⟩
    case round =>
      obtain ⟨j, oa, oc, hj, rfl, HR⟩ := hrel
      obtain ⟨wo, rfl⟩ : ∃ wo, wo = wr := ⟨wr, rfl⟩
      have hbo : Below W1.heap.size W1 wo := HL3.out.1.trans (HR.out.2.2.below (B := W1.heap.size) HL3.out.1.size (fun k hk => by have := HL3.out.2.2.2; have := HL3.out.1.size; rcases hk with hk | hk <;> omega))
      have HBO := Lib.hid hbo
      have hown := own_turned HL3.out.2.1.1 HR.out.2.2 (fun k hk h => by have := HL3.out.2.1.2 k hk; have := HL3.out.2.2.2; rcases h with h | h <;> omega)
      have HIN := Lib.hid (show IntsRd wo a2 L.length L from (ints_of_own hown).toIntsRd)
      have hlo : wl.heap.size ≤ wo.heap.size := HR.out.2.2.size
      have HLO := Lib.hid (show wl.heap.size ≤ wo.heap.size ∧ ob < wl.heap.size ∧ W1.heap.size ≤ ob from by have := HL3.out.2.2.2; omega)
      clear hown hbo hlo
      by_cases hlt : j < L.length
      · have hlti : (j : Int) < (L.length : Int) := by omega
        have hj0 : (0 : Int) ≤ (j : Int) := by omega
        obtain ⟨lb, lo, z, rfl, hz, hzc⟩ := HIN.out.place hlt
        obtain ⟨m, c, rfl, hmu, hc⟩ := HMEM.out z (List.mem_of_getElem? hz)
        obtain ⟨b, off, params, regs, blocks, ba0, bc0, rfl, hx, c0, c1, c2', hRx⟩ := code_place HU.out.1 hmu
        rw [hc] at hx
        have hxe := Option.some.inj hx
        have hcf : params = c.params ∧ regs = c.regs ∧ blocks = c.blocks := by rw [hxe]; exact ⟨rfl, rfl, rfl⟩
        rw [← hxe] at hRx
        obtain ⟨rfl, rfl, rfl⟩ := hcf
        have hul : us.length ≤ 1048576 := Nat.le_trans (szS_len szCodeD us) HU.out.2
        have hmi : (m : Int) < (us.length : Int) := by omega
        have hm0 : (0 : Int) ≤ (m : Int) := by omega
        have HSZ := Lib.hid (show szCodeD c ≤ 1048576 from Nat.le_trans (szS_mem (List.mem_of_getElem? hc)) HU.out.2)
        have HZ := Lib.hid (And.intro hz hc)
        have HCP := Lib.hid (fun (W : World) (hW : Below wo.heap.size wo W) => l7Copy_any HCB.out [.int .i64 c.params, .int .i64 c.regs, .slice ba0 c.blocks.length bc0] c W (codeR_lasts _ _ _ _ (HRW.out _ (HBO.out.trans (hW.mono HBO.out.size))).2.2 hRx) HSZ.out)
        have HKP := Lib.hid (show ∀ W, Below wo.heap.size wo W → (W.cell? ⟨pb, 0, none⟩ = some (.slice (some ⟨b, off, none⟩) us.length uc) ∧ W.cell? ⟨lb, lo + j, none⟩ = some (.int .i64 (m : Int)) ∧ W.cell? ⟨b, off + m * 3, none⟩ = some (.int .i64 c.params) ∧ W.cell? ⟨b, off + m * 3 + 1, none⟩ = some (.int .i64 c.regs) ∧ W.cell? ⟨b, off + m * 3 + 2, none⟩ = some (.slice ba0 c.blocks.length bc0)) from fun W hW => by
          have h1 := HRW.out _ (HBO.out.trans (hW.mono HBO.out.size))
          exact ⟨cell_of_row _ _ 0 _ _ _ h1.1, cell_later hW hzc, cell_later h1.2.2 c0, cell_later h1.2.2 c1, cell_later h1.2.2 c2'⟩)
        clear hx hxe hRx c0 c1 c2' hzc hz hc
        go_upto_region 8 with fail
        go_cut [7] (fun t7 wx => ∃ (cb : Nat) (ba2 : Option Addr) (bc2 : Nat), t7 = .pointer (some ⟨cb, 0, none⟩) ∧ Hid (wx.heap[cb]? = some (.cells #[.int .i64 c.params, .int .i64 c.regs, .slice ba2 c.blocks.length bc2] 52 (0, 0)) ∧ SepK 5 49 BlockK (fun k => wo.heap.size ≤ k ∧ k ≠ cb ∧ k < wx.heap.size) wx ba2 c.blocks.length bc2 c.blocks ∧ (wo.heap.size ≤ cb ∧ cb < wx.heap.size) ∧ Below wo.heap.size wo wx))
        case first =>
          refine wp_region_L (S := (fun W => W.cell? ⟨pb, 0, none⟩ = some (.slice (some ⟨b, off, none⟩) us.length uc) ∧ W.cell? ⟨lb, lo + j, none⟩ = some (.int .i64 (m : Int)) ∧ W.cell? ⟨b, off + m * 3, none⟩ = some (.int .i64 c.params) ∧ W.cell? ⟨b, off + m * 3 + 1, none⟩ = some (.int .i64 c.regs) ∧ W.cell? ⟨b, off + m * 3 + 2, none⟩ = some (.slice ba0 c.blocks.length bc0))) (by kernel_rfl) ?_
          have hHeld := HKP.out _ ((Below.refl wo.heap.size wo).drew)
          have HBA := Lib.hid ((Below.refl wo.heap.size wo).drew)
          generalize wo.drew = w5 at HBA hHeld ⊢
          refine wpAnyL_take 1 (i := 0) (oi := ⟨some 24, _, _, _, _, _⟩) (v := ?_) rfl (by kernel_rfl) (by kernel_rfl) (by kernel_rfl) (by kernel_rfl) (fun _ _ _ h => h) (Or.inl ⟨by rfl, ?_⟩) hHeld ?_
          rotate_left
          · (intro w hSw; (try dsimp only at hSw); go_simp; all_goals (try with_reducible rfl))
          (try simp only [Act.put, List.setIfInBounds_toArray, List.set_cons_zero, List.set_cons_succ])
          refine wpAnyL_take 6 (i := 1) (oi := ⟨some 25, _, _, _, _, _⟩) (v := ?_) rfl (by kernel_rfl) (by kernel_rfl) (by kernel_rfl) (by kernel_rfl) (fun _ _ _ h => h) (Or.inl ⟨by rfl, ?_⟩) hHeld ?_
          rotate_left
          · (intro w hSw; (try dsimp only at hSw); go_simp; all_goals (try with_reducible rfl))
          (try simp only [Act.put, List.setIfInBounds_toArray, List.set_cons_zero, List.set_cons_succ])
          refine wpAnyL_take 4 (i := 2) (oi := ⟨some 26, _, _, _, _, _⟩) (v := ?_) rfl (by kernel_rfl) (by kernel_rfl) (by kernel_rfl) (by kernel_rfl) (fun _ _ _ h => h) (Or.inl ⟨by rfl, ?_⟩) hHeld ?_
          rotate_left
          · (intro w hSw; (try dsimp only at hSw); go_simp; all_goals (try with_reducible rfl))
          (try simp only [Act.put, List.setIfInBounds_toArray, List.set_cons_zero, List.set_cons_succ])
          refine wpAnyL_take 4 (i := 3) (oi := ⟨some 27, _, _, _, _, _⟩) (v := ?_) rfl (by kernel_rfl) (by kernel_rfl) (by kernel_rfl) (by kernel_rfl) (fun _ _ _ h => h) (Or.inl ⟨by rfl, ?_⟩) hHeld ?_
          rotate_left
          · (intro w hSw; (try dsimp only at hSw); go_simp; all_goals (try with_reducible rfl))
          (try simp only [Act.put, List.setIfInBounds_toArray, List.set_cons_zero, List.set_cons_succ])
          refine wpAnyL_take 5 (i := 4) (oi := ⟨some 28, _, _, _, _, _⟩) (v := ?_) rfl (by kernel_rfl) (by kernel_rfl) (by kernel_rfl) (by kernel_rfl) (fun _ _ _ h => h) (Or.inl ⟨by rfl, ?_⟩) hHeld ?_
          rotate_left
          · (intro w hSw; (try dsimp only at hSw); go_simp; all_goals (try with_reducible rfl))
          (try simp only [Act.put, List.setIfInBounds_toArray, List.set_cons_zero, List.set_cons_succ])
          refine wpAnyL_take 6 (i := 5) (oi := ⟨some 29, _, _, _, _, _⟩) (v := ?_) rfl (by kernel_rfl) (by kernel_rfl) (by kernel_rfl) (by kernel_rfl) (fun _ _ _ h => h) (Or.inl ⟨by rfl, ?_⟩) hHeld ?_
          rotate_left
          · (intro w hSw; (try dsimp only at hSw); go_simp; all_goals (try with_reducible rfl))
          (try simp only [Act.put, List.setIfInBounds_toArray, List.set_cons_zero, List.set_cons_succ])
          refine wpAnyL_take 7 (i := 6) (oi := ⟨some 30, _, _, _, _, _⟩) (v := ?_) rfl (by kernel_rfl) (by kernel_rfl) (by kernel_rfl) (by kernel_rfl) (fun _ _ _ h => h) (Or.inl ⟨by rfl, ?_⟩) hHeld ?_
          rotate_left
          · (intro w hSw; (try dsimp only at hSw); go_simp; all_goals (try with_reducible rfl))
          (try simp only [Act.put, List.setIfInBounds_toArray, List.set_cons_zero, List.set_cons_succ])
          refine wpAnyL_take 8 (i := 7) (oi := ⟨some 31, _, _, _, _, _⟩) (v := ?_) rfl (by kernel_rfl) (by kernel_rfl) (by kernel_rfl) (by kernel_rfl) (fun _ _ _ h => h) (Or.inl ⟨by rfl, ?_⟩) hHeld ?_
          rotate_left
          · (intro w hSw; (try dsimp only at hSw); go_simp; all_goals (try with_reducible rfl))
          (try simp only [Act.put, List.setIfInBounds_toArray, List.set_cons_zero, List.set_cons_succ])
          refine wpAnyL_ready (rs := [8, 9]) (by kernel_rfl) (by simp) ?_
          refine AllReadyL.cons (o := ⟨some 32, _, _, _, _, _⟩) rfl (fun K hK => ?_) ?_
          · go_simp
            go_at_call 26
            refine (HCP.out _ HBA.out).mono ?_
            rintro e w7 ⟨cs', rfl, hK7, hb7⟩
            have hK7' := codeK_sets.here hK7
            obtain ⟨ba2, bc2, hcs, -⟩ := hK7
            subst hcs
            have HB7 := Lib.hid (And.intro (HBA.out.trans (hb7.mono HBA.out.size)) (And.intro hK7' (And.intro HBA.out.size hb7.size)))
            clear hK7' hb7
            have hHeld2 := HKP.out _ HB7.out.1
            refine hK.out _ _ (fun _ => hHeld2) ?_
            clear hK K hHeld
            have hHeld := hHeld2
            clear hHeld2
            (try simp only [Act.put, List.setIfInBounds_toArray, List.set_cons_zero, List.set_cons_succ])
            refine wpAnyL_ready (rs := [9]) (by kernel_rfl) (by simp) ?_
            refine AllReadyL.cons (o := ⟨some 7, _, _, _, _, _⟩) rfl (fun K hK => ?_) ?_
            · go_simp
              have HD := Lib.hid (copy_after HB7.out.1 HB7.out.2.1 HB7.out.2.2.1 HB7.out.2.2.2)
              have hHeld2 := HKP.out _ HD.out.2.2.2
              refine hK.out _ _ (fun _ => hHeld2) ?_
              clear hK K hHeld
              have hHeld := hHeld2
              clear hHeld2
              (try simp only [Act.put, List.setIfInBounds_toArray, List.set_cons_zero, List.set_cons_succ])
              generalize w7.alloc (.cells #[.int .i64 0, .int .i64 0, .slice none 0 0] 52) = w8 at HD hHeld ⊢
              generalize w7.heap.size = cb at HD ⊢
              refine wpAnyL_ready (rs := [10]) (by kernel_rfl) (by simp) ?_
              refine AllReadyL.cons (o := ⟨none, _, _, _, _, _⟩) rfl (fun K hK => ?_) ?_
              · have hRow := HD.out.1
                have y0 := frozen_of_row _ _ 0 _ _ hRow
                have y1 := frozen_of_row _ _ 1 _ _ hRow
                have y2 := frozen_of_row _ _ 2 _ _ hRow
                have r0 := cell_of_row _ _ 0 _ _ _ hRow
                have r1 := cell_of_row _ _ 1 _ _ _ hRow
                have r2 := cell_of_row _ _ 2 _ _ _ hRow
                simp only [List.getElem?_toArray, List.getElem?_cons_zero, List.getElem?_cons_succ] at r0 r1 r2
                go_simp
                clear y0 y1 y2 r0 r1 r2 hRow
                refine hK.out _ _ (lastL (by kernel_rfl)) ?_
                clear hK K hHeld
                (try simp only [Act.put, List.setIfInBounds_toArray, List.set_cons_zero, List.set_cons_succ])
                refine wpAnyL_done (by kernel_rfl) ?_ _
                have HF := Lib.hid (copy_put HD.out.1 HD.out.2.1 HD.out.2.2.1 HD.out.2.2.2)
                rw [setCells3d] at HF
                go_wp2_with fail
                go_meet
                exact ⟨_, _, _, rfl, HF⟩
              exact AllReadyL.nil
            exact AllReadyL.nil
          refine AllReadyL.cons (o := ⟨some 7, _, _, _, _, _⟩) rfl (fun K hK => ?_) ?_
          · go_simp
            have HB6 := Lib.hid (copy_before HBA.out)
            have hHeld2 := HKP.out _ HB6.out.2.1
            refine hK.out _ _ (fun _ => hHeld2) ?_
            clear hK K hHeld
            have hHeld := hHeld2
            clear hHeld2
            (try simp only [Act.put, List.setIfInBounds_toArray, List.set_cons_zero, List.set_cons_succ])
            generalize w5.alloc (.cells #[.int .i64 0, .int .i64 0, .slice none 0 0] 52) = w6 at HB6 hHeld ⊢
            generalize w5.heap.size = cb at HB6 ⊢
            clear HBA
            have HBA := Lib.hid HB6.out.2.1
            refine wpAnyL_ready (rs := [8]) (by kernel_rfl) (by simp) ?_
            refine AllReadyL.cons (o := ⟨some 32, _, _, _, _, _⟩) rfl (fun K hK => ?_) ?_
            · go_simp
              go_at_call 26
              refine (HCP.out _ HBA.out).mono ?_
              rintro e w7 ⟨cs', rfl, hK7, hb7⟩
              have hK7' := codeK_sets.here hK7
              obtain ⟨ba2, bc2, hcs, -⟩ := hK7
              subst hcs
              have HD := Lib.hid (copy_behind HB6.out hK7' hb7)
              clear hK7' hb7
              have hHeld2 := HKP.out _ HD.out.2.2.2
              refine hK.out _ _ (fun _ => hHeld2) ?_
              clear hK K hHeld
              have hHeld := hHeld2
              clear hHeld2
              (try simp only [Act.put, List.setIfInBounds_toArray, List.set_cons_zero, List.set_cons_succ])
              refine wpAnyL_ready (rs := [10]) (by kernel_rfl) (by simp) ?_
              refine AllReadyL.cons (o := ⟨none, _, _, _, _, _⟩) rfl (fun K hK => ?_) ?_
              · have hRow := HD.out.1
                have y0 := frozen_of_row _ _ 0 _ _ hRow
                have y1 := frozen_of_row _ _ 1 _ _ hRow
                have y2 := frozen_of_row _ _ 2 _ _ hRow
                have r0 := cell_of_row _ _ 0 _ _ _ hRow
                have r1 := cell_of_row _ _ 1 _ _ _ hRow
                have r2 := cell_of_row _ _ 2 _ _ _ hRow
                simp only [List.getElem?_toArray, List.getElem?_cons_zero, List.getElem?_cons_succ] at r0 r1 r2
                go_simp
                clear y0 y1 y2 r0 r1 r2 hRow
                refine hK.out _ _ (lastL (by kernel_rfl)) ?_
                clear hK K hHeld
                (try simp only [Act.put, List.setIfInBounds_toArray, List.set_cons_zero, List.set_cons_succ])
                refine wpAnyL_done (by kernel_rfl) ?_ _
                have HF := Lib.hid (copy_put HD.out.1 HD.out.2.1 HD.out.2.2.1 HD.out.2.2.2)
                rw [setCells3d] at HF
                go_wp2_with fail
                go_meet
                exact ⟨_, _, _, rfl, HF⟩
              exact AllReadyL.nil
            exact AllReadyL.nil
          exact AllReadyL.nil
        case rest =>
          obtain ⟨cb, ba2, bc2, rfl, HF⟩ := hcut
          have hbn : c.blocks.length ≤ 1048576 := by have h := HSZ.out; unfold szCodeD at h; have := szS_len szBlockD c.blocks; omega
          clear HKP HCP hmi hm0 hlti
          go_wp2_with fail
          go_loopg [8] c.blocks.length (fun G i wr => ∃ bj : Nat, bj + G = c.blocks.length ∧ i = .int .i64 bj ∧ Hid (SepK 5 49 BlockK (fun k => wo.heap.size ≤ k ∧ k ≠ cb ∧ k < wc.heap.size) wr ba2 c.blocks.length bc2 (hm (dropBlock L) c.blocks bj) ∧ Turned (fun k => wo.heap.size ≤ k ∧ k ≠ cb ∧ k < wc.heap.size) wc wr))
          case atStart => exact ⟨0, by omega, rfl, Lib.hid ⟨by rw [hm_start]; exact HF.out.2.1, Turned.refl _ _⟩⟩
          case round =>
            obtain ⟨bj, hbj, rfl, HP⟩ := hrel
            obtain ⟨wp, rfl⟩ : ∃ wp, wp = wr := ⟨wr, rfl⟩
            have HCR := Lib.hid (show wp.heap[cb]? = some (.cells #[.int .i64 c.params, .int .i64 c.regs, .slice ba2 c.blocks.length bc2] 52 (0, 0)) ∧ Below wo.heap.size wo wp ∧ wc.heap.size ≤ wp.heap.size from
              ⟨(HP.out.2.block cb HF.out.2.2.1.2 (fun h => h.2.1 rfl)).trans HF.out.1, HF.out.2.2.2.trans (HP.out.2.below (B := wo.heap.size) HF.out.2.2.2.size (fun k hk => hk.1)), HP.out.2.size⟩)
            have cc2 := cell_of_row _ _ 2 _ _ _ HCR.out.1
            simp only [List.getElem?_toArray, List.getElem?_cons_zero, List.getElem?_cons_succ] at cc2
            by_cases hltb : bj < c.blocks.length
            · have hltbi : (bj : Int) < (c.blocks.length : Int) := by omega
              have hb0 : (0 : Int) ≤ (bj : Int) := by omega
              rcases HP.out.1.case with ⟨-, h0, -⟩ | ⟨g, rfl⟩
              · omega
              obtain ⟨x, pre, d, post, F, hx, hdl, hrm, hRx, hF, hSg, hput⟩ := HP.out.1.at blockK_sets hltb
              rw [hm_get hltb] at hx
              obtain ⟨pa, pc, ia, ic, na, nc, S1, S2, S3, rfl, h1, h2, h3, d1, d2, d3⟩ := hRx
              have hxl : x.ins.length ≤ 1048576 := by
                have h9 := HSZ.out
                have h8 := szS_mem (sz := szBlockD) (List.mem_of_getElem? hx)
                have h7 := szS_len szInsD x.ins
                unfold szCodeD at h9
                unfold szBlockD at h8 h9
                omega
              have HB := Lib.hid (And.intro hx (And.intro hrm (And.intro hF (And.intro hSg (And.intro hput (And.intro h1 (And.intro h3 (And.intro d1 (And.intro d2 d3)))))))))
              have HI := Lib.hid (show SepK 4 45 InsK S2 wp ia x.ins.length ic (hm (dropIns L) x.ins 0) ∧ Turned S2 wp wp from ⟨by rw [hm_start]; exact h2, Turned.refl _ _⟩)
              have HS2 := Lib.hid (show ∀ k, S2 k → (wo.heap.size ≤ k ∧ k ≠ cb ∧ k < wc.heap.size) ∧ k ≠ g from fun k hk => hF k (d2 k hk).1)
              clear hx hrm hF hSg hput h1 h2 h3 d1 d2 d3 hdl
              go_wp2_with fail
              clear cc2
              go_loopg [9] x.ins.length (fun G i wr => ∃ i2 : Nat, i2 + G = x.ins.length ∧ i = .int .i64 i2 ∧ Hid (SepK 4 45 InsK S2 wr ia x.ins.length ic (hm (dropIns L) x.ins i2) ∧ Turned S2 wp wr))
              case atStart => exact ⟨0, by omega, rfl, HI⟩
              case round =>
                obtain ⟨i2, hi2, rfl, HQ⟩ := hrel
                have hcbr : wr.heap[cb]? = some (.cells #[.int .i64 c.params, .int .i64 c.regs, .slice (some ⟨g, 0, none⟩) c.blocks.length bc2] 52 (0, 0)) := (HQ.out.2.block cb (Array.getElem?_eq_some_iff.1 HCR.out.1).1 (fun h => (HS2.out cb h).1.2.1 rfl)).trans HCR.out.1
                have cc2 := cell_of_row _ _ 2 _ _ _ hcbr
                simp only [List.getElem?_toArray, List.getElem?_cons_zero, List.getElem?_cons_succ] at cc2
                have hrmr := HB.out.2.1.turned HQ.out.2 (fun h => (HS2.out g h).2 rfl)
                have z1 : wr.cell? ⟨g, bj * 5 + 1, none⟩ = some (.slice ia x.ins.length ic) := hrmr.cell (q := 1) rfl
                have HBW := Lib.hid (show Below wo.heap.size wo wr from HCR.out.2.1.trans (HQ.out.2.below (B := wo.heap.size) HCR.out.2.1.size (fun k hk => (HS2.out k hk).1.1)))
                clear hcbr hrmr
                by_cases hlt2 : i2 < x.ins.length
                · have hlti2 : (i2 : Int) < (x.ins.length : Int) := by omega
                  have hi0 : (0 : Int) ≤ (i2 : Int) := by omega
                  rcases HQ.out.1.case with ⟨-, h0, -⟩ | ⟨g2, rfl⟩
                  · omega
                  obtain ⟨y, pre2, dd, post2, F2, hy, hdl2, hrm2, hRy, hF2, hSg2, hput2⟩ := HQ.out.1.at insK_sets hlt2
                  rw [hm_get hlt2] at hy
                  obtain ⟨aa, ac, rfl, ho⟩ := hRy
                  have o0 : wr.cell? ⟨g2, i2 * 4, none⟩ = some (.int .i64 y.op) := hrm2.cell (q := 0) rfl
                  have o3 : wr.cell? ⟨g2, i2 * 4 + 3, none⟩ = some (.int .i64 y.num) := hrm2.cell (q := 3) rfl
                  have f3 : wr.frozen? ⟨g2, i2 * 4 + 3, none⟩ = false := hrm2.frozen 3
                  by_cases hop : y.op = 14
                  · have hopd : (y.op == 14) = true := by rw [hop]; rfl
                    have HFIN := Lib.hid (show SepK 4 45 InsK S2 (wr.setCell ⟨g2, i2 * 4 + 3, none⟩ (.int .i64 (idxInt y.num L))) (some ⟨g2, 0, none⟩) x.ins.length ic (hm (dropIns L) x.ins (i2 + 1)) ∧ Turned S2 wp (wr.setCell ⟨g2, i2 * 4 + 3, none⟩ (.int .i64 (idxInt y.num L))) from by
                      have hst := turned_store wr g2 (i2 * 4 + 3) (.int .i64 (idxInt y.num L))
                      refine ⟨?_, HQ.out.2.trans (hst.mono (fun k hk => by have hk : k = g2 := hk; rw [hk]; exact hSg2))⟩
                      rw [← hm_set hy]
                      have hde : dropIns L y = ⟨y.op, y.to, y.args, idxInt y.num L⟩ := by unfold dropIns; rw [if_pos hop]
                      rw [hde]
                      refine hput2 _ _ _ (hst.mono (fun k hk => .inl hk)) (hrm2.put (q := 3) (by simp) (.int .i64 (idxInt y.num L))) (by simp) ⟨aa, ac, rfl, ?_⟩
                      exact ho.turned hst (fun k _ h1 h2 => (hF2 k h1).2 h2))
                    have HIX := Lib.hid (l10At_any (some ⟨lb, lo, none⟩) L.length c2 L y.num wr (HIN.out.later HBW.out) (by omega))
                    clear hput2 hrm2 ho hF2 hSg2 hdl2 hy hop
                    go_wp2_with fail
                    refine HIX.out.mono ?_
                    rintro e w8 ⟨rfl, rfl⟩
                    go_wp2
                    go_roundg (gk - 1)
                    case measure => omega
                    case rel => exact ⟨i2 + 1, by omega, by go_num, HFIN⟩
                  · have hopd : (y.op == 14) = false := by simpa using hop
                    have HFIN := Lib.hid (show SepK 4 45 InsK S2 wr (some ⟨g2, 0, none⟩) x.ins.length ic (hm (dropIns L) x.ins (i2 + 1)) ∧ Turned S2 wp wr from by
                      rw [hm_same hy (by unfold dropIns; rw [if_neg hop])]
                      exact HQ.out)
                    clear hput2 hrm2 ho hF2 hSg2 hdl2 hy hop
                    go_wp2
                    go_roundg (gk - 1)
                    case measure => omega
                    case rel => exact ⟨i2 + 1, by omega, by go_num, HFIN⟩
                · obtain rfl : i2 = x.ins.length := by omega
                  have HFIN := Lib.hid (show SepK 5 49 BlockK (fun k => wo.heap.size ≤ k ∧ k ≠ cb ∧ k < wc.heap.size) wr (some ⟨g, 0, none⟩) c.blocks.length bc2 (hm (dropBlock L) c.blocks (bj + 1)) ∧ Turned (fun k => wo.heap.size ≤ k ∧ k ≠ cb ∧ k < wc.heap.size) wc wr from by
                    obtain ⟨hx, hrm, hF, hSg, hput, h1, h3, d1, d2, d3⟩ := HB.out
                    have hT : Turned (fun k => k = g ∨ F k) wp wr := HQ.out.2.mono (fun k hk => .inr (d2 k hk).1)
                    have hins := HQ.out.1
                    rw [hm_end rfl] at hins
                    refine ⟨?_, HP.out.2.trans (HQ.out.2.mono (fun k hk => (HS2.out k hk).1))⟩
                    rw [← hm_set hx]
                    refine hput _ _ _ hT (hrm.turned HQ.out.2 (fun h => (hF g (d2 g h).1).2 rfl)) rfl ⟨pa, pc, ia, ic, na, nc, S1, S2, S3, by simp [dropBlock], h1.turned phiK_sets HQ.out.2 (fun k _ h => (d1 k h).2.1), by simpa [dropBlock] using hins, h3.turned HQ.out.2 (fun k _ h => (d3 k h).2.2), d1, d2, d3⟩)
                  go_wp2
                  go_roundg (c.blocks.length - (bj + 1))
                  case measure => omega
                  case rel => exact ⟨bj + 1, by omega, by go_num, HFIN⟩
            · obtain rfl : bj = c.blocks.length := by omega
              have hEND := HP.out.1
              rw [hm_end rfl] at hEND
              have hba : Below wp.heap.size wp (wp.alloc (.cells #[.int .i64 c.params, .int .i64 c.regs, .slice ba2 c.blocks.length bc2] 52)) := (Below.refl _ _).alloc (Nat.le_refl _) _
              have hbo9 : Below wo.heap.size wo (wp.alloc (.cells #[.int .i64 c.params, .int .i64 c.regs, .slice ba2 c.blocks.length bc2] 52)) := HCR.out.2.1.trans (hba.mono HCR.out.2.1.size)
              have hobl : ob < wo.heap.size := by have := HLO.out; omega
              have HO := Lib.hid (show wp.heap[ob]? = some (.cells #[.slice oa j oc] 30 (0, 0)) ∧ (wp.alloc (.cells #[.int .i64 c.params, .int .i64 c.regs, .slice ba2 c.blocks.length bc2] 52)).heap[ob]? = some (.cells #[.slice oa j oc] 30 (0, 0)) ∧ Below wo.heap.size wo (wp.alloc (.cells #[.int .i64 c.params, .int .i64 c.regs, .slice ba2 c.blocks.length bc2] 52)) ∧ (wp.alloc (.cells #[.int .i64 c.params, .int .i64 c.regs, .slice ba2 c.blocks.length bc2] 52)).heap.size = wp.heap.size + 1 ∧ wo.heap.size ≤ wp.heap.size from ⟨(HCR.out.2.1.block ob hobl).trans HR.out.1, (hbo9.block ob hobl).trans HR.out.1, hbo9, World.size_alloc _ _, HCR.out.2.1.size⟩)
              have HY := Lib.hid (show CodeK (fun k => wo.heap.size ≤ k ∧ k ≠ cb ∧ k < wc.heap.size) (wp.alloc (.cells #[.int .i64 c.params, .int .i64 c.regs, .slice ba2 c.blocks.length bc2] 52)) [.int .i64 c.params, .int .i64 c.regs, .slice ba2 c.blocks.length bc2] (dropAt us L m) from by
                rw [dropAt_of HZ.out.2]
                exact ⟨ba2, bc2, by simp [dropCode], by simpa [dropCode] using hEND.below blockK_sets hba⟩)
              obtain ⟨cells, G, hrows⟩ := (HR.out.2.1.here codeK_sets).below codeK_sets hbo9
              have HRW9 := Lib.hid hrows
              have c0 := cell_of_row _ _ 0 _ _ _ HCR.out.1
              have c1 := cell_of_row _ _ 1 _ _ _ HCR.out.1
              have o0 := cell_of_row _ _ 0 _ _ _ HO.out.1
              simp only [List.getElem?_toArray, List.getElem?_cons_zero, List.getElem?_cons_succ] at c0 c1 o0
              clear hEND hba hbo9 hobl hrows
              go_wp2_with (at_builtin; refine app_code rfl (.tmp 74) (.tmp 76) rfl 0 _ j _ rfl HRW9.out.own _ 1 [.int .i64 c.params, .int .i64 c.regs, .slice ba2 c.blocks.length bc2] rfl (.inr ⟨_, _, rfl, fun i v hv => by (rw [cell_of_row _ _ (0 + i) _ _ _ (heap_alloc_new wp _)]); simpa using hv⟩) rfl (by intro u hu; (simp only [List.mem_cons, List.not_mem_nil, or_false] at hu); rcases hu with rfl | rfl | rfl <;> rfl) (by omega) (Nat.zero_le _) ?_; intro a9 c9 w9 hown9 hg9 hlies9; (have HP9 := Lib.hid (show w9.heap[ob]? = some (.cells #[.slice oa j oc] 30 (0, 0)) ∧ SepK 3 52 CodeK (fun k => wl.heap.size ≤ k) w9 a9 (j + 1) c9 ((L.take (j + 1)).map (dropAt us L)) ∧ Turned (fun k => k = ob ∨ wl.heap.size ≤ k) wl w9 from drop_push HR.out HLO.out HZ.out.1 HO.out HY.out HCR.out.2.2 HRW9.out hown9 hg9 hlies9)); clear hown9 hg9 hlies9; (have o9 := cell_of_row _ _ 0 _ _ _ HP9.out.1); (have y9 := frozen_of_row _ _ 0 _ _ HP9.out.1); (simp only [List.getElem?_toArray, List.getElem?_cons_zero] at o9))
              have HFIN := Lib.hid (drop_store HP9.out HLO.out.2.1)
              go_roundg (L.length - (j + 1))
              case measure => omega
              case rel => exact ⟨j + 1, _, _, by omega, by go_num, HFIN⟩
      · obtain rfl : j = L.length := by omega
        have HRB9 := Lib.hid (HRW.out _ HBO.out)
        have o0 := cell_of_row _ _ 0 _ _ _ HR.out.1
        have r0 := cell_of_row _ _ 0 _ _ _ HRB9.out.2.1
        have y0 := frozen_of_row _ _ 0 _ _ HRB9.out.2.1
        simp only [List.getElem?_toArray, List.getElem?_cons_zero] at o0 r0
        go_wp2
        refine bodyPost_ret (results_cellR rfl _ _ rb 30 (List.toArray [.slice oa L.length oc]) (0, 0) _ rfl ?_ Tryz.underlying30 rfl (by kernel_rfl)) rfl ?_
        · exact (heap_setCell_same wo rb 0 _ _ _ HRB9.out.2.1).trans rfl
        have hlen : R.length = L.length := by rw [HRL.out, List.length_map]
        rw [hlen, HBV.out]
        refine ⟨oa, oc, rfl, ?_, HRB9.out.2.2.setCell (by have := HR1.out; show w.heap.size ≤ rb; omega) _⟩
        rw [HRL.out]
        have hts := turned_store wo rb 0 (.slice oa L.length oc)
        have h9 := HR.out.2.1
        rw [List.take_length] at h9
        exact (h9.turned codeK_sets hts (fun k _ h1 h2 => by have h1 : wl.heap.size ≤ k := h1; have h2 : k = rb := h2; have := HPL.out; have := HLO.out; omega)).mono (fun k h => by have h : wl.heap.size ≤ k := h; have := HR1.out.1.size; have := HLO.out; show w.heap.size ≤ k; omega)

end Go.Proofs.YtonlidgmfmgcmaaGreat
