/-
  The reference copies a code (l7Copy), from what its copy of a block gives.
-/
import Derived.Test.YtajnldkempeheaaClone
import Derived.Test.YtajnldkempeheaaHl
import Derived.Test.YtajnldkempeheaaUvSpecUnit
import Derived.StillTailTactics
import Derived.Test.YtajnldkempeheaaCore
import Derived.Test.YtajnldkempeheaaBase
import Derived.Lib.SlicesCompact
import Derived.Deep.DeepCutAuto
import Derived.Maps.OwnOps
import Derived.Maps.Views
import Derived.Shelf.Sort.Plain
import Derived.Shelf.Slices.CompactI
import Derived.Test.YtajnldkempeheaaRu6
import Derived.Sort.OwnSortedInts
import Derived.Lib.OwnBridge
import Derived.Shelf.Slices.In.SortNone
import Derived.Maps.RangeWalk
import Derived.Sort.OwnSorted
import Derived.Test.YtajnldkempeheaaUvUnit

namespace Go.Proofs.Ytajnldkempeheaa
open Go.RowKit
set_option linter.unusedVariables false

/-- What l7CopyBlock gives. -/
def CopyBlkC : Prop := ∀ (cs : List Value) (x : BlockD) (w : World), BlockR w cs x → szBlockD x ≤ 1048576 →
  Calls Try.prog 80 #[.agg cs.toArray] w fun e w' => ∃ cs', e = .returned (.agg (List.toArray cs')) ∧ BlockK (fun k => w.heap.size ≤ k) w' cs' x ∧ Below w.heap.size w w'
theorem two_rowsC (w : World) (P Z : Obj) : ((w.alloc P).alloc Z).heap[w.heap.size]? = some P ∧ ((w.alloc P).alloc Z).heap[w.heap.size + 1]? = some Z ∧ ((w.alloc P).alloc Z).heap.size = w.heap.size + 2 ∧ Below w.heap.size w ((w.alloc P).alloc Z) := by
  have h2 := heap_alloc_new (w.alloc P) Z
  rw [World.size_alloc] at h2
  exact ⟨heap_alloc2_old w P Z, h2, by rw [World.size_alloc, World.size_alloc], ((Below.refl _ _).alloc (Nat.le_refl _) _).alloc (by simp) _⟩
set_option maxRecDepth 100000 in
set_option maxHeartbeats 4000000 in
theorem l7Copy_any (hC : CopyBlkC) (cs : List Value) (x : CodeD) (w : World) (hR : CodeR w cs x) (hs : szCodeD x ≤ 1048576) :
    Calls Try.prog 58 #[.agg cs.toArray] w fun e w' => ∃ cs', e = .returned (.agg (List.toArray cs')) ∧ CodeK (fun k => w.heap.size ≤ k) w' cs' x ∧ Below w.heap.size w w' := by
  obtain ⟨ba, bc, rfl, ⟨bm, br⟩⟩ := hR
  unfold szCodeD at hs
  have HBR := Lib.hid (And.intro bm br)
  have HS := Lib.hid hs
  have HCC0 := Lib.hid hC
  have hbn : x.blocks.length ≤ 1048576 := by have := szS_len szBlockD x.blocks; omega
  have H2 := Lib.hid (two_rowsC w (.cells #[.int .i64 x.params, .int .i64 x.regs, .slice ba x.blocks.length bc] 37) (.cells #[.int .i64 0, .int .i64 0, .slice none 0 0] 37))
  clear hs bm br hC
  go_enter Try.func58, Try.ntmps58
  go_upto_region 1 with fail
  obtain ⟨pb, hpb⟩ : ∃ n, n = w.heap.size := ⟨_, rfl⟩
  obtain ⟨rb, hrb⟩ : ∃ n, n = w.heap.size + 1 := ⟨_, rfl⟩
  generalize (w.alloc (.cells #[.int .i64 x.params, .int .i64 x.regs, .slice ba x.blocks.length bc] 37)).alloc (.cells #[.int .i64 0, .int .i64 0, .slice none 0 0] 37) = W1 at H2 ⊢
  have HR1 := Lib.hid (show Below w.heap.size w W1 ∧ W1.heap[pb]? = some (.cells #[.int .i64 x.params, .int .i64 x.regs, .slice ba x.blocks.length bc] 37 (0, 0)) ∧ W1.heap[rb]? = some (.cells #[.int .i64 0, .int .i64 0, .slice none 0 0] 37 (0, 0)) ∧ (pb = w.heap.size ∧ rb = w.heap.size + 1 ∧ W1.heap.size = w.heap.size + 2) from by rw [hpb, hrb]; exact ⟨H2.out.2.2.2, H2.out.1, H2.out.2.1, rfl, rfl, H2.out.2.2.1⟩)
  rw [← hrb, ← hpb]
  clear hpb hrb H2
  have HPL := Lib.hid (show pb < W1.heap.size ∧ rb < W1.heap.size from by have := HR1.out.2.2.2; omega)
  have k0 := cell_of_row _ _ 0 _ _ _ HR1.out.2.1
  have k1 := cell_of_row _ _ 1 _ _ _ HR1.out.2.1
  simp only [List.getElem?_toArray, List.getElem?_cons_zero, List.getElem?_cons_succ] at k0 k1
  have hba : Below W1.heap.size W1 (W1.alloc (.cells #[.int .i64 x.params, .int .i64 x.regs, .slice none 0 0] 37)) := (Below.refl _ _).alloc (Nat.le_refl _) _
  have HW := Lib.hid (show (W1.alloc (.cells #[.int .i64 x.params, .int .i64 x.regs, .slice none 0 0] 37)).heap[W1.heap.size]? = some (.cells #[.int .i64 x.params, .int .i64 x.regs, .slice none 0 0] 37 (0, 0)) ∧ Below W1.heap.size W1 (W1.alloc (.cells #[.int .i64 x.params, .int .i64 x.regs, .slice none 0 0] 37)) ∧ (W1.alloc (.cells #[.int .i64 x.params, .int .i64 x.regs, .slice none 0 0] 37)).heap.size = W1.heap.size + 1 from ⟨heap_alloc_new W1 _, hba, World.size_alloc _ _⟩)
  clear hba
  go_upto_region 2 with fail
  clear k0 k1
  obtain ⟨cb, hcb⟩ : ∃ n, n = W1.heap.size := ⟨_, rfl⟩
  generalize W1.alloc (.cells #[.int .i64 x.params, .int .i64 x.regs, .slice none 0 0] 37) = wc at HW ⊢
  have HLT := Lib.hid (show cb = W1.heap.size ∧ wc.heap.size = W1.heap.size + 1 from ⟨hcb, HW.out.2.2⟩)
  have HWC := Lib.hid (show wc.heap[cb]? = some (.cells #[.int .i64 x.params, .int .i64 x.regs, .slice none 0 0] 37 (0, 0)) ∧ Below W1.heap.size W1 wc from by rw [hcb]; exact ⟨HW.out.1, HW.out.2.1⟩)
  rw [← hcb]
  clear hcb HW
  go_wp2_with fail
  go_loopg [4] x.blocks.length (fun G i wr => ∃ (j : Nat) (oa : Option Addr) (oc : Nat), j + G = x.blocks.length ∧ i = .int .i64 j ∧ Hid (wr.heap[cb]? = some (.cells #[.int .i64 x.params, .int .i64 x.regs, .slice oa j oc] 37 (0, 0)) ∧ SepK 5 41 BlockK (fun k => wc.heap.size ≤ k) wr oa j oc (x.blocks.take j) ∧ Below W1.heap.size W1 wr ∧ wc.heap.size ≤ wr.heap.size))
  case atStart => exact ⟨0, none, 0, by omega, rfl, Lib.hid ⟨HWC.out.1, by simpa using SepK.nil, HWC.out.2, Nat.le_refl _⟩⟩
  case round =>
    obtain ⟨j, oa, oc, hj, rfl, HR⟩ := hrel
    have hpbr := (HR.out.2.2.1.block pb HPL.out.1).trans HR1.out.2.1
    have p2 := cell_of_row _ _ 2 _ _ _ hpbr
    simp only [List.getElem?_toArray, List.getElem?_cons_zero, List.getElem?_cons_succ] at p2
    have hbw : Below w.heap.size w wr := HR1.out.1.trans (HR.out.2.2.1.mono HR1.out.1.size)
    by_cases hlt : j < x.blocks.length
    · have hlti : (j : Int) < (x.blocks.length : Int) := by omega
      have hj0 : (0 : Int) ≤ (j : Int) := by omega
      obtain ⟨b, off, phis, ins, jump, jon, nx, pa, pc, ia, ic, na, nc, rfl, hx, c0, c1, c2, c3, c4, hRx⟩ := block_place HBR.out.2 hlt
      obtain ⟨y, hy⟩ : ∃ y : BlockD, y = ⟨phis, ins, jump, jon, nx⟩ := ⟨_, rfl⟩
      have hyf : phis = y.phis ∧ ins = y.ins ∧ jump = y.jump ∧ jon = y.jon ∧ nx = y.nx := by rw [hy]; exact ⟨rfl, rfl, rfl, rfl, rfl⟩
      rw [← hy] at hx hRx
      obtain ⟨rfl, rfl, rfl, rfl, rfl⟩ := hyf
      clear hy
      have HCC := Lib.hid (And.intro c0 (And.intro c1 (And.intro c2 (And.intro c3 c4))))
      have HX := Lib.hid hx
      have HB5 := Lib.hid ((Below.refl wr.heap.size wr).drew)
      have HCP := Lib.hid (HCC0.out [.slice pa y.phis.length pc, .slice ia y.ins.length ic, .int .i64 y.jump, .int .i64 y.jon, .slice na y.nx.length nc] y wr.drew (blockR_lasts _ _ _ _ hbw.drew hRx) (Nat.le_trans (szS_mem (List.mem_of_getElem? hx)) HS.out))
      have HKP := Lib.hid (show ∀ W, Below wr.heap.size wr W → (W.cell? ⟨cb, 2, none⟩ = some (.slice oa j oc) ∧ W.cell? ⟨pb, 2, none⟩ = some (.slice (some ⟨b, off, none⟩) x.blocks.length bc) ∧ W.cell? ⟨b, off + j * 5, none⟩ = some (.slice pa y.phis.length pc) ∧ W.cell? ⟨b, off + j * 5 + 1, none⟩ = some (.slice ia y.ins.length ic) ∧ W.cell? ⟨b, off + j * 5 + 2, none⟩ = some (.int .i64 y.jump) ∧ W.cell? ⟨b, off + j * 5 + 3, none⟩ = some (.int .i64 y.jon) ∧ W.cell? ⟨b, off + j * 5 + 4, none⟩ = some (.slice na y.nx.length nc)) from fun W hW =>
        ⟨cell_later hW (cell_of_row _ _ 2 _ _ _ HR.out.1), cell_later hW p2, cell_later hW (cell_later hbw c0), cell_later hW (cell_later hbw c1), cell_later hW (cell_later hbw c2), cell_later hW (cell_later hbw c3), cell_later hW (cell_later hbw c4)⟩)
      clear hx hRx c0 c1 c2 c3 c4 hpbr
      go_upto_region 5 with fail
      clear p2
      refine wp_region_L (S := (fun W => W.cell? ⟨cb, 2, none⟩ = some (.slice oa j oc) ∧ W.cell? ⟨pb, 2, none⟩ = some (.slice (some ⟨b, off, none⟩) x.blocks.length bc) ∧ W.cell? ⟨b, off + j * 5, none⟩ = some (.slice pa y.phis.length pc) ∧ W.cell? ⟨b, off + j * 5 + 1, none⟩ = some (.slice ia y.ins.length ic) ∧ W.cell? ⟨b, off + j * 5 + 2, none⟩ = some (.int .i64 y.jump) ∧ W.cell? ⟨b, off + j * 5 + 3, none⟩ = some (.int .i64 y.jon) ∧ W.cell? ⟨b, off + j * 5 + 4, none⟩ = some (.slice na y.nx.length nc))) (by kernel_rfl) ?_
      have hHeld := HKP.out _ ((Below.refl wr.heap.size wr).drew)
      generalize wr.drew = w5 at HB5 HCP hHeld ⊢
      refine wpAnyL_take 1 (i := 0) (oi := ⟨some 17, _, _, _, _, _⟩) (v := ?_) rfl (by kernel_rfl) (by kernel_rfl) (by kernel_rfl) (by kernel_rfl) (fun _ _ _ h => h) (Or.inl ⟨by rfl, ?_⟩) hHeld ?_
      rotate_left
      · (intro w hSw; (try dsimp only at hSw); go_simp; all_goals (try with_reducible rfl))
      (try simp only [Act.put, List.setIfInBounds_toArray, List.set_cons_zero, List.set_cons_succ])
      refine wpAnyL_take 9 (i := 1) (oi := ⟨some 18, _, _, _, _, _⟩) (v := ?_) rfl (by kernel_rfl) (by kernel_rfl) (by kernel_rfl) (by kernel_rfl) (fun _ _ _ h => h) (Or.inl ⟨by rfl, ?_⟩) hHeld ?_
      rotate_left
      · (intro w hSw; (try dsimp only at hSw); go_simp; all_goals (try with_reducible rfl))
      (try simp only [Act.put, List.setIfInBounds_toArray, List.set_cons_zero, List.set_cons_succ])
      refine wpAnyL_take 3 (i := 2) (oi := ⟨some 19, _, _, _, _, _⟩) (v := ?_) rfl (by kernel_rfl) (by kernel_rfl) (by kernel_rfl) (by kernel_rfl) (fun _ _ _ h => h) (Or.inl ⟨by rfl, ?_⟩) hHeld ?_
      rotate_left
      · (intro w hSw; (try dsimp only at hSw); go_simp; all_goals (try with_reducible rfl))
      (try simp only [Act.put, List.setIfInBounds_toArray, List.set_cons_zero, List.set_cons_succ])
      refine wpAnyL_take 5 (i := 3) (oi := ⟨some 20, _, _, _, _, _⟩) (v := ?_) rfl (by kernel_rfl) (by kernel_rfl) (by kernel_rfl) (by kernel_rfl) (fun _ _ _ h => h) (Or.inl ⟨by rfl, ?_⟩) hHeld ?_
      rotate_left
      · (intro w hSw; (try dsimp only at hSw); go_simp; all_goals (try with_reducible rfl))
      (try simp only [Act.put, List.setIfInBounds_toArray, List.set_cons_zero, List.set_cons_succ])
      refine wpAnyL_take 5 (i := 4) (oi := ⟨some 21, _, _, _, _, _⟩) (v := ?_) rfl (by kernel_rfl) (by kernel_rfl) (by kernel_rfl) (by kernel_rfl) (fun _ _ _ h => h) (Or.inl ⟨by rfl, ?_⟩) hHeld ?_
      rotate_left
      · (intro w hSw; (try dsimp only at hSw); go_simp; all_goals (try with_reducible rfl))
      (try simp only [Act.put, List.setIfInBounds_toArray, List.set_cons_zero, List.set_cons_succ])
      refine wpAnyL_take 6 (i := 5) (oi := ⟨some 22, _, _, _, _, _⟩) (v := ?_) rfl (by kernel_rfl) (by kernel_rfl) (by kernel_rfl) (by kernel_rfl) (fun _ _ _ h => h) (Or.inl ⟨by rfl, ?_⟩) hHeld ?_
      rotate_left
      · (intro w hSw; (try dsimp only at hSw); go_simp; all_goals (try with_reducible rfl))
      (try simp only [Act.put, List.setIfInBounds_toArray, List.set_cons_zero, List.set_cons_succ])
      refine wpAnyL_take 7 (i := 6) (oi := ⟨some 23, _, _, _, _, _⟩) (v := ?_) rfl (by kernel_rfl) (by kernel_rfl) (by kernel_rfl) (by kernel_rfl) (fun _ _ _ h => h) (Or.inl ⟨by rfl, ?_⟩) hHeld ?_
      rotate_left
      · (intro w hSw; (try dsimp only at hSw); go_simp; all_goals (try with_reducible rfl))
      (try simp only [Act.put, List.setIfInBounds_toArray, List.set_cons_zero, List.set_cons_succ])
      refine wpAnyL_ready (rs := [7]) (by kernel_rfl) (by simp) ?_
      refine AllReadyL.cons (o := ⟨some 24, _, _, _, _, _⟩) rfl (fun K hK => ?_) AllReadyL.nil
      go_simp
      go_at_call 80
      refine HCP.out.mono ?_
      rintro e w7 ⟨cs', rfl, hK7, hb7⟩
      have hK7' := blockK_sets.here hK7
      obtain ⟨pa2, pc2, ia2, ic2, na2, nc2, S1, S2, S3, hcs, -⟩ := hK7
      subst hcs
      have HB7 := Lib.hid (show Below wr.heap.size wr w7 ∧ BlockK (fun k => w5.heap.size ≤ k ∧ k < w7.heap.size) w7 [.slice pa2 y.phis.length pc2, .slice ia2 y.ins.length ic2, .int .i64 y.jump, .int .i64 y.jon, .slice na2 y.nx.length nc2] y ∧ wr.heap.size ≤ w5.heap.size from ⟨HB5.out.trans (hb7.mono HB5.out.size), hK7', HB5.out.size⟩)
      clear hK7' hb7
      have hHeld2 := HKP.out _ HB7.out.1
      refine hK.out _ _ (fun _ => hHeld2) ?_
      clear hK K hHeld
      have hHeld := hHeld2
      clear hHeld2
      (try simp only [Act.put, List.setIfInBounds_toArray, List.set_cons_zero, List.set_cons_succ])
      refine wpAnyL_ready (rs := [8]) (by kernel_rfl) (by simp) ?_
      refine AllReadyL.cons (o := ⟨some 25, _, _, _, _, _⟩) rfl (fun K hK => ?_) AllReadyL.nil
      go_simp
      have HB8 := Lib.hid (show Below wr.heap.size wr (w7.alloc (.cells #[.slice pa2 y.phis.length pc2, .slice ia2 y.ins.length ic2, .int .i64 y.jump, .int .i64 y.jon, .slice na2 y.nx.length nc2] 41)) ∧ BlockK (fun k => w5.heap.size ≤ k ∧ k < w7.heap.size) (w7.alloc (.cells #[.slice pa2 y.phis.length pc2, .slice ia2 y.ins.length ic2, .int .i64 y.jump, .int .i64 y.jon, .slice na2 y.nx.length nc2] 41)) [.slice pa2 y.phis.length pc2, .slice ia2 y.ins.length ic2, .int .i64 y.jump, .int .i64 y.jon, .slice na2 y.nx.length nc2] y ∧ (w7.alloc (.cells #[.slice pa2 y.phis.length pc2, .slice ia2 y.ins.length ic2, .int .i64 y.jump, .int .i64 y.jon, .slice na2 y.nx.length nc2] 41)).heap.size = w7.heap.size + 1 ∧ RowAt (w7.alloc (.cells #[.slice pa2 y.phis.length pc2, .slice ia2 y.ins.length ic2, .int .i64 y.jump, .int .i64 y.jon, .slice na2 y.nx.length nc2] 41)) (some ⟨w7.heap.size, 0, none⟩) [.slice pa2 y.phis.length pc2, .slice ia2 y.ins.length ic2, .int .i64 y.jump, .int .i64 y.jon, .slice na2 y.nx.length nc2] from by
        have hba : Below w7.heap.size w7 (w7.alloc (.cells #[.slice pa2 y.phis.length pc2, .slice ia2 y.ins.length ic2, .int .i64 y.jump, .int .i64 y.jon, .slice na2 y.nx.length nc2] 41)) := (Below.refl _ _).alloc (Nat.le_refl _) _
        exact ⟨HB7.out.1.trans (hba.mono HB7.out.1.size), blockK_sets.below hba HB7.out.2.1, World.size_alloc _ _, .inr ⟨_, _, rfl, fun i v hv => by (rw [cell_of_row _ _ (0 + i) _ _ _ (heap_alloc_new w7 _)]); simpa using hv⟩⟩)
      have hHeld2 := HKP.out _ HB8.out.1
      refine hK.out _ _ (fun _ => hHeld2) ?_
      clear hK K hHeld
      have hHeld := hHeld2
      clear hHeld2
      (try simp only [Act.put, List.setIfInBounds_toArray, List.set_cons_zero, List.set_cons_succ])
      generalize w7.alloc (.cells #[.slice pa2 y.phis.length pc2, .slice ia2 y.ins.length ic2, .int .i64 y.jump, .int .i64 y.jon, .slice na2 y.nx.length nc2] 41) = w8 at HB8 hHeld ⊢
      generalize hz7 : w7.heap.size = z7 at HB8 ⊢
      have HZ7 := Lib.hid (show wr.heap.size ≤ z7 ∧ wr.heap.size ≤ w5.heap.size from by rw [← hz7]; exact ⟨HB7.out.1.size, HB7.out.2.2⟩)
      clear hz7
      obtain ⟨cells, G, hrows⟩ := (HR.out.2.1.here blockK_sets).below blockK_sets HB8.out.1
      have HRW := Lib.hid hrows
      clear hrows
      refine wpAnyL_ready (rs := [9]) (by kernel_rfl) (by simp) ?_
      refine AllReadyL.cons (o := ⟨some 26, _, _, _, _, _⟩) rfl (fun K hK => ?_) AllReadyL.nil
      refine step_app_block rfl (.tmp 18) (.tmp 25) rfl 0 _ j _ rfl HRW.out.own _ 1 [.slice pa2 y.phis.length pc2, .slice ia2 y.ins.length ic2, .int .i64 y.jump, .int .i64 y.jon, .slice na2 y.nx.length nc2] rfl HB8.out.2.2.2 rfl (by intro u hu; (simp only [List.mem_cons, List.not_mem_nil, or_false] at hu); rcases hu with rfl | rfl | rfl | rfl | rfl <;> rfl) (by omega) (Nat.zero_le _) ?_
      intro a9 c9 w9 hown9 hg9 hlies9
      have HP9 := Lib.hid (show SepK 5 41 BlockK (fun k => wc.heap.size ≤ k) w9 a9 (j + 1) c9 (x.blocks.take j ++ [y]) ∧ Turned (fun k => wc.heap.size ≤ k) wr w9 ∧ Below W1.heap.size W1 w9 from by
        have ht : Turned (fun k => wc.heap.size ≤ k) wr w9 := (turned_of_below HB8.out.1 (fun k h1 h2 => by omega)).trans (turned_of_grown hg9 (fun k hk => (HRW.out.row k hk).1))
        exact ⟨HRW.out.push blockK_sets HB8.out.2.1 hown9 hg9 hlies9 (fun k hk => by have := HB8.out.2.2.1; have := HZ7.out; have := HR.out.2.2.2; refine ⟨by show _ ≤ _; omega, by omega, fun h => by have := h.2; omega⟩) (fun k hk => by have := HB8.out.1.size; exact ⟨hk.1, by omega⟩) (by have := HB8.out.1.size; have := HR.out.2.2.2; show _ ≤ _; omega), ht, HR.out.2.2.1.trans (ht.below (B := W1.heap.size) HR.out.2.2.1.size (fun k hk => by have := HLT.out; omega))⟩)
      have HC9 := Lib.hid (show w9.heap[cb]? = some (.cells #[.int .i64 x.params, .int .i64 x.regs, .slice oa j oc] 37 (0, 0)) from (HP9.out.2.1.block cb (Array.getElem?_eq_some_iff.1 HR.out.1).1 (fun h => by have := HLT.out; omega)).trans HR.out.1)
      clear hown9 hg9 hlies9
      have hHeld2 := (show (fun W => W.cell? ⟨cb, 2, none⟩ = some (.slice oa j oc) ∧ W.cell? ⟨pb, 2, none⟩ = some (.slice (some ⟨b, off, none⟩) x.blocks.length bc) ∧ W.cell? ⟨b, off + j * 5, none⟩ = some (.slice pa y.phis.length pc) ∧ W.cell? ⟨b, off + j * 5 + 1, none⟩ = some (.slice ia y.ins.length ic) ∧ W.cell? ⟨b, off + j * 5 + 2, none⟩ = some (.int .i64 y.jump) ∧ W.cell? ⟨b, off + j * 5 + 3, none⟩ = some (.int .i64 y.jon) ∧ W.cell? ⟨b, off + j * 5 + 4, none⟩ = some (.slice na y.nx.length nc)) w9 from ⟨cell_of_row _ _ 2 _ _ _ HC9.out, cell_of_row _ _ 2 _ _ _ ((HP9.out.2.2.block pb HPL.out.1).trans HR1.out.2.1), cell_later (HR1.out.1.trans (HP9.out.2.2.mono HR1.out.1.size)) HCC.out.1, cell_later (HR1.out.1.trans (HP9.out.2.2.mono HR1.out.1.size)) HCC.out.2.1, cell_later (HR1.out.1.trans (HP9.out.2.2.mono HR1.out.1.size)) HCC.out.2.2.1, cell_later (HR1.out.1.trans (HP9.out.2.2.mono HR1.out.1.size)) HCC.out.2.2.2.1, cell_later (HR1.out.1.trans (HP9.out.2.2.mono HR1.out.1.size)) HCC.out.2.2.2.2⟩)
      refine hK.out _ _ (fun _ => hHeld2) ?_
      clear hK K hHeld
      have hHeld := hHeld2
      clear hHeld2
      (try simp only [Act.put, List.setIfInBounds_toArray, List.set_cons_zero, List.set_cons_succ])
      refine wpAnyL_take 11 (i := 10) (oi := ⟨some 27, _, _, _, _, _⟩) (v := ?_) rfl (by kernel_rfl) (by kernel_rfl) (by kernel_rfl) (by kernel_rfl) (fun _ _ _ h => h) (Or.inl ⟨by rfl, ?_⟩) hHeld ?_
      rotate_left
      · (intro w hSw; (try dsimp only at hSw); go_simp; all_goals (try with_reducible rfl))
      (try simp only [Act.put, List.setIfInBounds_toArray, List.set_cons_zero, List.set_cons_succ])
      refine wpAnyL_ready (rs := [11]) (by kernel_rfl) (by simp) ?_
      refine AllReadyL.cons (o := ⟨none, _, _, _, _, _⟩) rfl (fun K hK => ?_) AllReadyL.nil
      have y0 := frozen_of_row _ _ 2 _ _ HC9.out
      have r0 := cell_of_row _ _ 2 _ _ _ HC9.out
      simp only [List.getElem?_toArray, List.getElem?_cons_zero, List.getElem?_cons_succ] at r0
      go_simp
      clear y0 r0
      refine hK.out _ _ (lastL (by kernel_rfl)) ?_
      clear hK K hHeld
      (try simp only [Act.put, List.setIfInBounds_toArray, List.set_cons_zero, List.set_cons_succ])
      refine wpAnyL_done (by kernel_rfl) ?_ _
      have HFIN := Lib.hid (show (w9.setCell ⟨cb, 2, none⟩ (.slice a9 (j + 1) c9)).heap[cb]? = some (.cells #[.int .i64 x.params, .int .i64 x.regs, .slice a9 (j + 1) c9] 37 (0, 0)) ∧ SepK 5 41 BlockK (fun k => wc.heap.size ≤ k) (w9.setCell ⟨cb, 2, none⟩ (.slice a9 (j + 1) c9)) a9 (j + 1) c9 (x.blocks.take (j + 1)) ∧ Below W1.heap.size W1 (w9.setCell ⟨cb, 2, none⟩ (.slice a9 (j + 1) c9)) ∧ wc.heap.size ≤ (w9.setCell ⟨cb, 2, none⟩ (.slice a9 (j + 1) c9)).heap.size from by
        have hts := turned_store w9 cb 2 (.slice a9 (j + 1) c9)
        have hl := HLT.out
        refine ⟨(heap_setCell_same w9 cb 2 _ _ _ HC9.out).trans rfl, ?_, HP9.out.2.2.setCell (show W1.heap.size ≤ cb by omega) _, by have := HP9.out.2.1.size; have := HR.out.2.2.2; rw [World.size_setCell]; omega⟩
        rw [take_succ_of HX.out]
        exact HP9.out.1.turned blockK_sets hts (fun k _ h1 h2 => by have h1 : wc.heap.size ≤ k := h1; have h2 : k = cb := h2; omega))
      go_wp2
      go_roundg (x.blocks.length - (j + 1))
      case measure => omega
      case rel => exact ⟨j + 1, _, _, by omega, by go_num, HFIN⟩
    · obtain rfl : j = x.blocks.length := by omega
      have hsep := HR.out.2.1
      rw [List.take_length] at hsep
      have hrbr := (HR.out.2.2.1.block rb HPL.out.2).trans HR1.out.2.2.1
      have HRB := Lib.hid hrbr
      have HFIN := Lib.hid (show Below w.heap.size w (wr.setCells rb 0 [.int .i64 x.params, .int .i64 x.regs, .slice oa x.blocks.length oc]) ∧ (wr.setCells rb 0 [.int .i64 x.params, .int .i64 x.regs, .slice oa x.blocks.length oc]).heap[rb]? = some (.cells (List.toArray [.int .i64 x.params, .int .i64 x.regs, .slice oa x.blocks.length oc]) 37 (0, 0)) ∧ CodeK (fun k => w.heap.size ≤ k) (wr.setCells rb 0 [.int .i64 x.params, .int .i64 x.regs, .slice oa x.blocks.length oc]) [.int .i64 x.params, .int .i64 x.regs, .slice oa x.blocks.length oc] x from by
        have ht := turned_setCells (g := rb) [.int .i64 x.params, .int .i64 x.regs, .slice oa x.blocks.length oc] wr 0
        have hl := HLT.out
        have h1 := HR1.out.2.2.2
        refine ⟨hbw.trans (ht.below (B := w.heap.size) hbw.size (fun k hk => by have hk : k = rb := hk; omega)), ?_, oa, oc, rfl, (hsep.turned blockK_sets ht (fun k _ h1 h2 => by have h1 : wc.heap.size ≤ k := h1; have h2 : k = rb := h2; omega)).mono (fun k h => by have h : wc.heap.size ≤ k := h; show w.heap.size ≤ k; omega)⟩
        have := heap_setCells_mid (w := wr) (A := []) (B := [.int .i64 0, .int .i64 0, .slice none 0 0]) (C := []) (vs := [.int .i64 x.params, .int .i64 x.regs, .slice oa x.blocks.length oc]) (o := 0) rfl (by simp) (by simpa using HRB.out)
        simpa using this)
      have q0 := cell_of_row _ _ 0 _ _ _ HR.out.1
      have q1 := cell_of_row _ _ 1 _ _ _ HR.out.1
      have q2 := cell_of_row _ _ 2 _ _ _ HR.out.1
      have r0 := cell_of_row _ _ 0 _ _ _ hrbr
      have r1 := cell_of_row _ _ 1 _ _ _ hrbr
      have r2 := cell_of_row _ _ 2 _ _ _ hrbr
      have y0 := frozen_of_row _ _ 0 _ _ hrbr
      have y1 := frozen_of_row _ _ 1 _ _ hrbr
      have y2 := frozen_of_row _ _ 2 _ _ hrbr
      simp only [List.getElem?_toArray, List.getElem?_cons_zero, List.getElem?_cons_succ] at q0 q1 q2 r0 r1 r2
      clear hrbr hpbr hsep
      go_wp2
      refine bodyPost_ret (results_cell_row rfl _ _ rb 37 (List.toArray [.int .i64 x.params, .int .i64 x.regs, .slice oa x.blocks.length oc]) (0, 0) _ rfl ?_ Try.underlying37 rfl (by kernel_rfl)) rfl ?_
      · exact HFIN.out.2.1
      exact ⟨_, rfl, HFIN.out.2.2, HFIN.out.1⟩

end Go.Proofs.Ytajnldkempeheaa
