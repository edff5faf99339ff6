/-
  The reference copies a unit (l7CopyUnit), from what its copy of a block gives. (printed by mkdg7.py)
-/
import Derived.Test.YtajnldkempeheaaCopyCode
import Derived.Test.YtajnldkempeheaaDg4

namespace Go.Proofs.Ytajnldkempeheaa
open Go.RowKit
set_option linter.unusedVariables false
set_option linter.unusedSimpArgs false

set_option maxRecDepth 100000 in
set_option maxHeartbeats 4000000 in
theorem l7CopyUnit_any (hC : CopyBlkC) (us : List CodeD) (ua : Option Addr) (uc : Nat) (w : World) (hU : SliceRd 3 CodeR w ua us.length us) (hl : us.length ≤ 1048576) (hs : ∀ c ∈ us, szCodeD c ≤ 1048576) :
    Calls Try.prog 39 #[.agg #[.slice ua us.length uc]] w fun e w' => ∃ (a : Option Addr) (c : Nat), e = .returned (.agg #[.slice a us.length c]) ∧ SepK 3 37 CodeK (fun k => w.heap.size ≤ k) w' a us.length c us ∧ Below w.heap.size w w' := by
  have HUR := Lib.hid hU
  have HS := Lib.hid hs
  have HCC0 := Lib.hid hC
  have H2 := Lib.hid (two_rowsC w (.cells #[.slice ua us.length uc] 25) (.cells #[.slice none 0 0] 25))
  clear hs hU hC
  go_enter Try.func39, Try.ntmps39
  go_upto_region 1 with fail
  obtain ⟨pb, hpb⟩ : ∃ n, n = w.heap.size := ⟨_, rfl⟩
  obtain ⟨rb, hrb⟩ : ∃ n, n = w.heap.size + 1 := ⟨_, rfl⟩
  generalize (w.alloc (.cells #[.slice ua us.length uc] 25)).alloc (.cells #[.slice none 0 0] 25) = W1 at H2 ⊢
  have HR1 := Lib.hid (show Below w.heap.size w W1 ∧ W1.heap[pb]? = some (.cells #[.slice ua us.length uc] 25 (0, 0)) ∧ W1.heap[rb]? = some (.cells #[.slice none 0 0] 25 (0, 0)) ∧ (pb = w.heap.size ∧ rb = w.heap.size + 1 ∧ W1.heap.size = w.heap.size + 2) from by rw [hpb, hrb]; exact ⟨H2.out.2.2.2, H2.out.1, H2.out.2.1, rfl, rfl, H2.out.2.2.1⟩)
  rw [← hrb, ← hpb]
  clear hpb hrb H2
  have HPL := Lib.hid (show pb < W1.heap.size ∧ rb < W1.heap.size from by have := HR1.out.2.2.2; omega)
  have hba : Below W1.heap.size W1 (W1.alloc (.cells #[.slice none 0 0] 25)) := (Below.refl _ _).alloc (Nat.le_refl _) _
  have HW := Lib.hid (show (W1.alloc (.cells #[.slice none 0 0] 25)).heap[W1.heap.size]? = some (.cells #[.slice none 0 0] 25 (0, 0)) ∧ Below W1.heap.size W1 (W1.alloc (.cells #[.slice none 0 0] 25)) ∧ (W1.alloc (.cells #[.slice none 0 0] 25)).heap.size = W1.heap.size + 1 from ⟨heap_alloc_new W1 _, hba, World.size_alloc _ _⟩)
  clear hba
  go_upto_region 2 with fail
  obtain ⟨cb, hcb⟩ : ∃ n, n = W1.heap.size := ⟨_, rfl⟩
  generalize W1.alloc (.cells #[.slice none 0 0] 25) = wc at HW ⊢
  have HLT := Lib.hid (show cb = W1.heap.size ∧ wc.heap.size = W1.heap.size + 1 from ⟨hcb, HW.out.2.2⟩)
  have HWC := Lib.hid (show wc.heap[cb]? = some (.cells #[.slice none 0 0] 25 (0, 0)) ∧ Below W1.heap.size W1 wc from by rw [hcb]; exact ⟨HW.out.1, HW.out.2.1⟩)
  rw [← hcb]
  clear hcb HW
  go_wp2_with fail
  go_loopg [4] us.length (fun G i wr => ∃ (j : Nat) (oa : Option Addr) (oc : Nat), j + G = us.length ∧ i = .int .i64 j ∧ Hid (wr.heap[cb]? = some (.cells #[.slice oa j oc] 25 (0, 0)) ∧ SepK 3 37 CodeK (fun k => wc.heap.size ≤ k) wr oa j oc (us.take j) ∧ Below W1.heap.size W1 wr ∧ wc.heap.size ≤ wr.heap.size))
  case atStart => exact ⟨0, none, 0, by omega, rfl, Lib.hid ⟨HWC.out.1, by simpa using SepK.nil, HWC.out.2, Nat.le_refl _⟩⟩
  case round =>
    obtain ⟨j, oa, oc, hj, rfl, HR⟩ := hrel
    have hpbr := (HR.out.2.2.1.block pb HPL.out.1).trans HR1.out.2.1
    have p0 := cell_of_row _ _ 0 _ _ _ hpbr
    simp only [List.getElem?_toArray, List.getElem?_cons_zero, List.getElem?_cons_succ] at p0
    have hbw : Below w.heap.size w wr := HR1.out.1.trans (HR.out.2.2.1.mono HR1.out.1.size)
    by_cases hlt : j < us.length
    · have hlti : (j : Int) < (us.length : Int) := by omega
      have hj0 : (0 : Int) ≤ (j : Int) := by omega
      obtain ⟨b, off, params, regs, blocks, ba, bc, rfl, hx, c0, c1, c2, hRx⟩ := code_place HUR.out hlt
      obtain ⟨x, hxe⟩ : ∃ x : CodeD, x = ⟨params, regs, blocks⟩ := ⟨_, rfl⟩
      have hxf : params = x.params ∧ regs = x.regs ∧ blocks = x.blocks := by rw [hxe]; exact ⟨rfl, rfl, rfl⟩
      rw [← hxe] at hx hRx
      obtain ⟨rfl, rfl, rfl⟩ := hxf
      clear hxe
      have HCC := Lib.hid (And.intro c0 (And.intro c1 c2))
      have HX := Lib.hid hx
      have HB5 := Lib.hid ((Below.refl wr.heap.size wr).drew)
      have HCP := Lib.hid (l7Copy_any HCC0.out [.int .i64 x.params, .int .i64 x.regs, .slice ba x.blocks.length bc] x wr.drew (codeR_lasts _ _ _ _ hbw.drew hRx) (HS.out x (List.mem_of_getElem? hx)))
      have HKP := Lib.hid (show ∀ W : World, Below wr.heap.size wr W → (W.cell? ⟨cb, 0, none⟩ = some (Value.slice oa j oc) ∧ W.cell? ⟨pb, 0, none⟩ = some (Value.slice (some ⟨b, off, none⟩) us.length uc) ∧ W.cell? ⟨b, off + j * 3, none⟩ = some (Value.int .i64 x.params) ∧ W.cell? ⟨b, off + j * 3 + 1, none⟩ = some (Value.int .i64 x.regs) ∧ W.cell? ⟨b, off + j * 3 + 2, none⟩ = some (Value.slice ba x.blocks.length bc)) from fun W hW =>
        ⟨cell_later hW (cell_of_row _ _ 0 _ _ _ HR.out.1), cell_later hW p0, cell_later hW (cell_later hbw c0), cell_later hW (cell_later hbw c1), cell_later hW (cell_later hbw c2)⟩)
      clear hx hRx c0 c1 c2 hpbr
      go_upto_region 5 with fail
      clear p0
      refine wp_region_L (S := fun W : World => W.cell? ⟨cb, 0, none⟩ = some (Value.slice oa j oc) ∧ W.cell? ⟨pb, 0, none⟩ = some (Value.slice (some ⟨b, off, none⟩) us.length uc) ∧ W.cell? ⟨b, off + j * 3, none⟩ = some (Value.int .i64 x.params) ∧ W.cell? ⟨b, off + j * 3 + 1, none⟩ = some (Value.int .i64 x.regs) ∧ W.cell? ⟨b, off + j * 3 + 2, none⟩ = some (Value.slice ba x.blocks.length bc)) (by kernel_rfl) ?_
      have hHeld : (fun W : World => W.cell? ⟨cb, 0, none⟩ = some (Value.slice oa j oc) ∧ W.cell? ⟨pb, 0, none⟩ = some (Value.slice (some ⟨b, off, none⟩) us.length uc) ∧ W.cell? ⟨b, off + j * 3, none⟩ = some (Value.int .i64 x.params) ∧ W.cell? ⟨b, off + j * 3 + 1, none⟩ = some (Value.int .i64 x.regs) ∧ W.cell? ⟨b, off + j * 3 + 2, none⟩ = some (Value.slice ba x.blocks.length bc)) _ := HKP.out _ HB5.out
      generalize wr.drew = w5 at HB5 HCP hHeld ⊢
      refine wpAnyL_take 1 (i := 0) (oi := ⟨some 13, _, _, _, _, _⟩) (v := ?_) rfl (by kernel_rfl) (by kernel_rfl) (by kernel_rfl) (by kernel_rfl) (fun _ _ _ h => h) (Or.inl ⟨by rfl, ?_⟩) hHeld ?_
      rotate_left
      · (intro w hSw; (try dsimp only at hSw); go_simp; all_goals (try with_reducible rfl))
      (try simp only [Act.put, List.setIfInBounds_toArray, List.set_cons_zero, List.set_cons_succ])
      refine wpAnyL_take 9 (i := 1) (oi := ⟨some 14, _, _, _, _, _⟩) (v := ?_) rfl (by kernel_rfl) (by kernel_rfl) (by kernel_rfl) (by kernel_rfl) (fun _ _ _ h => h) (Or.inl ⟨by rfl, ?_⟩) hHeld ?_
      rotate_left
      · (intro w hSw; (try dsimp only at hSw); go_simp; all_goals (try with_reducible rfl))
      (try simp only [Act.put, List.setIfInBounds_toArray, List.set_cons_zero, List.set_cons_succ])
      refine wpAnyL_take 3 (i := 2) (oi := ⟨some 15, _, _, _, _, _⟩) (v := ?_) rfl (by kernel_rfl) (by kernel_rfl) (by kernel_rfl) (by kernel_rfl) (fun _ _ _ h => h) (Or.inl ⟨by rfl, ?_⟩) hHeld ?_
      rotate_left
      · (intro w hSw; (try dsimp only at hSw); go_simp; all_goals (try with_reducible rfl))
      (try simp only [Act.put, List.setIfInBounds_toArray, List.set_cons_zero, List.set_cons_succ])
      refine wpAnyL_take 5 (i := 3) (oi := ⟨some 16, _, _, _, _, _⟩) (v := ?_) rfl (by kernel_rfl) (by kernel_rfl) (by kernel_rfl) (by kernel_rfl) (fun _ _ _ h => h) (Or.inl ⟨by rfl, ?_⟩) hHeld ?_
      rotate_left
      · (intro w hSw; (try dsimp only at hSw); go_simp; all_goals (try with_reducible rfl))
      (try simp only [Act.put, List.setIfInBounds_toArray, List.set_cons_zero, List.set_cons_succ])
      refine wpAnyL_take 5 (i := 4) (oi := ⟨some 17, _, _, _, _, _⟩) (v := ?_) rfl (by kernel_rfl) (by kernel_rfl) (by kernel_rfl) (by kernel_rfl) (fun _ _ _ h => h) (Or.inl ⟨by rfl, ?_⟩) hHeld ?_
      rotate_left
      · (intro w hSw; (try dsimp only at hSw); go_simp; all_goals (try with_reducible rfl))
      (try simp only [Act.put, List.setIfInBounds_toArray, List.set_cons_zero, List.set_cons_succ])
      refine wpAnyL_take 6 (i := 5) (oi := ⟨some 18, _, _, _, _, _⟩) (v := ?_) rfl (by kernel_rfl) (by kernel_rfl) (by kernel_rfl) (by kernel_rfl) (fun _ _ _ h => h) (Or.inl ⟨by rfl, ?_⟩) hHeld ?_
      rotate_left
      · (intro w hSw; (try dsimp only at hSw); go_simp; all_goals (try with_reducible rfl))
      (try simp only [Act.put, List.setIfInBounds_toArray, List.set_cons_zero, List.set_cons_succ])
      refine wpAnyL_take 7 (i := 6) (oi := ⟨some 19, _, _, _, _, _⟩) (v := ?_) rfl (by kernel_rfl) (by kernel_rfl) (by kernel_rfl) (by kernel_rfl) (fun _ _ _ h => h) (Or.inl ⟨by rfl, ?_⟩) hHeld ?_
      rotate_left
      · (intro w hSw; (try dsimp only at hSw); go_simp; all_goals (try with_reducible rfl))
      (try simp only [Act.put, List.setIfInBounds_toArray, List.set_cons_zero, List.set_cons_succ])
      refine wpAnyL_ready (rs := [7]) (by kernel_rfl) (by simp) ?_
      refine AllReadyL.cons (o := ⟨some 20, _, _, _, _, _⟩) rfl (fun K hK => ?_) AllReadyL.nil
      go_simp
      go_at_call 58
      refine HCP.out.mono ?_
      rintro e w7 ⟨cs', rfl, hK7, hb7⟩
      have hK7' := codeK_sets.here hK7
      obtain ⟨ba2, bc2, rfl, -⟩ := hK7
      have HB7 := Lib.hid (show Below wr.heap.size wr w7 ∧ CodeK (fun k => w5.heap.size ≤ k ∧ k < w7.heap.size) w7 [.int .i64 x.params, .int .i64 x.regs, .slice ba2 x.blocks.length bc2] x ∧ wr.heap.size ≤ w5.heap.size from ⟨HB5.out.trans (hb7.mono HB5.out.size), hK7', HB5.out.size⟩)
      clear hK7' hb7
      have hHeld2 : (fun W : World => W.cell? ⟨cb, 0, none⟩ = some (Value.slice oa j oc) ∧ W.cell? ⟨pb, 0, none⟩ = some (Value.slice (some ⟨b, off, none⟩) us.length uc) ∧ W.cell? ⟨b, off + j * 3, none⟩ = some (Value.int .i64 x.params) ∧ W.cell? ⟨b, off + j * 3 + 1, none⟩ = some (Value.int .i64 x.regs) ∧ W.cell? ⟨b, off + j * 3 + 2, none⟩ = some (Value.slice ba x.blocks.length bc)) _ := HKP.out _ HB7.out.1
      refine hK.out _ _ (fun _ => hHeld2) ?_
      clear hK K hHeld
      have hHeld := hHeld2
      clear hHeld2
      (try simp only [Act.put, List.setIfInBounds_toArray, List.set_cons_zero, List.set_cons_succ])
      refine wpAnyL_ready (rs := [8]) (by kernel_rfl) (by simp) ?_
      refine AllReadyL.cons (o := ⟨some 21, _, _, _, _, _⟩) rfl (fun K hK => ?_) AllReadyL.nil
      go_simp
      have HBA := Lib.hid (show Below w7.heap.size w7 (w7.alloc (.cells #[.int .i64 x.params, .int .i64 x.regs, .slice ba2 x.blocks.length bc2] 37)) from (Below.refl _ _).alloc (Nat.le_refl _) _)
      have HRA := Lib.hid (rowAt_cells w7 [.int .i64 x.params, .int .i64 x.regs, .slice ba2 x.blocks.length bc2] 37)
      have HB8 := Lib.hid (HB7.out.1.trans (HBA.out.mono HB7.out.1.size))
      have hHeld2 : (fun W : World => W.cell? ⟨cb, 0, none⟩ = some (Value.slice oa j oc) ∧ W.cell? ⟨pb, 0, none⟩ = some (Value.slice (some ⟨b, off, none⟩) us.length uc) ∧ W.cell? ⟨b, off + j * 3, none⟩ = some (Value.int .i64 x.params) ∧ W.cell? ⟨b, off + j * 3 + 1, none⟩ = some (Value.int .i64 x.regs) ∧ W.cell? ⟨b, off + j * 3 + 2, none⟩ = some (Value.slice ba x.blocks.length bc)) _ := HKP.out _ HB8.out
      refine hK.out _ _ (fun _ => hHeld2) ?_
      clear hK K hHeld
      have hHeld := hHeld2
      clear hHeld2
      (try simp only [Act.put, List.setIfInBounds_toArray, List.set_cons_zero, List.set_cons_succ])
      obtain ⟨z4, hz4⟩ : ∃ z, z = w7.heap.size := ⟨_, rfl⟩
      rw [← hz4] at HRA
      change Hid (RowAt (w7.alloc (.cells #[.int .i64 x.params, .int .i64 x.regs, .slice ba2 x.blocks.length bc2] 37)) _ _) at HRA
      rw [← hz4]
      generalize (w7.alloc (.cells #[.int .i64 x.params, .int .i64 x.regs, .slice ba2 x.blocks.length bc2] 37)) = w6 at HBA HB8 HRA hHeld ⊢
      obtain ⟨cells, G, hrows⟩ := (HR.out.2.1.here codeK_sets).below codeK_sets HB8.out
      have HRW := Lib.hid hrows
      clear hrows
      refine wpAnyL_ready (rs := [9]) (by kernel_rfl) (by simp) ?_
      refine AllReadyL.cons (o := ⟨some 22, _, _, _, _, _⟩) rfl (fun K hK => ?_) AllReadyL.nil
      refine step_app_code rfl (.tmp 14) (.tmp 21) rfl 0 _ j _ rfl HRW.out.own _ 1 [.int .i64 x.params, .int .i64 x.regs, .slice ba2 x.blocks.length bc2] rfl HRA.out rfl (by intro u hu; (simp only [List.mem_cons, List.not_mem_nil, or_false] at hu); rcases hu with rfl | rfl | rfl <;> rfl) (by omega) (Nat.zero_le _) ?_
      intro a9 c9 w9 hown9 hg9 hlies9
      have HP9 := Lib.hid (show SepK 3 37 CodeK (fun k => wc.heap.size ≤ k) w9 a9 (j + 1) c9 (us.take j ++ [x]) ∧ Turned (fun k => wc.heap.size ≤ k) wr w9 ∧ Below W1.heap.size W1 w9 from by
        have ht : Turned (fun k => wc.heap.size ≤ k) wr w9 := (turned_of_below HB8.out (fun k h1 h2 => by omega)).trans (turned_of_grown hg9 (fun k hk => (HRW.out.row k hk).1))
        have hsz8 := HBA.out.size
        have hsz9 := HB8.out.size
        have hwc := HR.out.2.2.2
        exact ⟨HRW.out.push codeK_sets (codeK_sets.below HBA.out HB7.out.2.1) hown9 hg9 hlies9 (fun k hk => by have := HB7.out.2.2; refine ⟨by show _ ≤ _; omega, by omega, fun h => by have := h.2; omega⟩) (fun k hk => ⟨hk.1, by omega⟩) (by show _ ≤ _; omega), ht, HR.out.2.2.1.trans (ht.below (B := W1.heap.size) HR.out.2.2.1.size (fun k hk => by have := HLT.out; omega))⟩)
      have HC9 := Lib.hid (show w9.heap[cb]? = some (.cells #[.slice oa j oc] 25 (0, 0)) from (HP9.out.2.1.block cb (Array.getElem?_eq_some_iff.1 HR.out.1).1 (fun h => by have := HLT.out; omega)).trans HR.out.1)
      clear hown9 hg9 hlies9
      have hbw9 := HR1.out.1.trans (HP9.out.2.2.mono HR1.out.1.size)
      have hHeld2 : (fun W : World => W.cell? ⟨cb, 0, none⟩ = some (Value.slice oa j oc) ∧ W.cell? ⟨pb, 0, none⟩ = some (Value.slice (some ⟨b, off, none⟩) us.length uc) ∧ W.cell? ⟨b, off + j * 3, none⟩ = some (Value.int .i64 x.params) ∧ W.cell? ⟨b, off + j * 3 + 1, none⟩ = some (Value.int .i64 x.regs) ∧ W.cell? ⟨b, off + j * 3 + 2, none⟩ = some (Value.slice ba x.blocks.length bc)) _ := ⟨cell_of_row _ _ 0 _ _ _ HC9.out, cell_of_row _ _ 0 _ _ _ ((HP9.out.2.2.block pb HPL.out.1).trans HR1.out.2.1), cell_later hbw9 HCC.out.1, cell_later hbw9 HCC.out.2.1, cell_later hbw9 HCC.out.2.2⟩
      refine hK.out _ _ (fun _ => hHeld2) ?_
      clear hK K hHeld
      have hHeld := hHeld2
      clear hHeld2
      (try simp only [Act.put, List.setIfInBounds_toArray, List.set_cons_zero, List.set_cons_succ])
      refine wpAnyL_take 11 (i := 10) (oi := ⟨some 23, _, _, _, _, _⟩) (v := ?_) rfl (by kernel_rfl) (by kernel_rfl) (by kernel_rfl) (by kernel_rfl) (fun _ _ _ h => h) (Or.inl ⟨by rfl, ?_⟩) hHeld ?_
      rotate_left
      · (intro w hSw; (try dsimp only at hSw); go_simp; all_goals (try with_reducible rfl))
      (try simp only [Act.put, List.setIfInBounds_toArray, List.set_cons_zero, List.set_cons_succ])
      refine wpAnyL_ready (rs := [11]) (by kernel_rfl) (by simp) ?_
      refine AllReadyL.cons (o := ⟨none, _, _, _, _, _⟩) rfl (fun K hK => ?_) AllReadyL.nil
      have y0 := frozen_of_row _ _ 0 _ _ HC9.out
      have r0 := cell_of_row _ _ 0 _ _ _ HC9.out
      simp only [List.getElem?_toArray, List.getElem?_cons_zero, List.getElem?_cons_succ] at r0
      go_simp
      clear y0 r0
      refine hK.out _ _ (lastL (by kernel_rfl)) ?_
      clear hK K hHeld
      (try simp only [Act.put, List.setIfInBounds_toArray, List.set_cons_zero, List.set_cons_succ])
      refine wpAnyL_done (by kernel_rfl) ?_ _
      have HFIN := Lib.hid (show (w9.setCell ⟨cb, 0, none⟩ (.slice a9 (j + 1) c9)).heap[cb]? = some (.cells #[.slice a9 (j + 1) c9] 25 (0, 0)) ∧ SepK 3 37 CodeK (fun k => wc.heap.size ≤ k) (w9.setCell ⟨cb, 0, none⟩ (.slice a9 (j + 1) c9)) a9 (j + 1) c9 (us.take (j + 1)) ∧ Below W1.heap.size W1 (w9.setCell ⟨cb, 0, none⟩ (.slice a9 (j + 1) c9)) ∧ wc.heap.size ≤ (w9.setCell ⟨cb, 0, none⟩ (.slice a9 (j + 1) c9)).heap.size from by
        have hts := turned_store w9 cb 0 (.slice a9 (j + 1) c9)
        have hl := HLT.out
        refine ⟨(heap_setCell_same w9 cb 0 _ _ _ HC9.out).trans rfl, ?_, HP9.out.2.2.setCell (show W1.heap.size ≤ cb by omega) _, by have := HP9.out.2.1.size; have := HR.out.2.2.2; rw [World.size_setCell]; omega⟩
        rw [take_succ_of HX.out]
        exact HP9.out.1.turned codeK_sets hts (fun k _ h1 h2 => by have h1 : wc.heap.size ≤ k := h1; have h2 : k = cb := h2; omega))
      clear HP9 HC9 HKP HCP HB5 HB7 HB8 HBA HRA HRW HCC HX hbw9
      go_wp2
      go_roundg (us.length - (j + 1))
      case measure => omega
      case rel => exact ⟨j + 1, _, _, by omega, by go_num, HFIN⟩
    · obtain rfl : j = us.length := by omega
      have hsep := HR.out.2.1
      rw [List.take_length] at hsep
      have hrbr := (HR.out.2.2.1.block rb HPL.out.2).trans HR1.out.2.2.1
      have HRB := Lib.hid hrbr
      have HSP := Lib.hid hsep
      have HBW := Lib.hid hbw
      have q0 := cell_of_row _ _ 0 _ _ _ HR.out.1
      have r0 := cell_of_row _ _ 0 _ _ _ hrbr
      have y0 := frozen_of_row _ _ 0 _ _ hrbr
      simp only [List.getElem?_toArray, List.getElem?_cons_zero, List.getElem?_cons_succ] at q0 r0
      clear hrbr hpbr hsep hbw
      go_wp2
      refine bodyPost_ret (results_cell_row rfl _ _ rb 25 #[.slice oa us.length oc] (0, 0) _ rfl ?_ Try.underlying25 rfl (by kernel_rfl)) rfl ?_
      · exact (heap_setCell_same wr rb 0 _ _ _ HRB.out).trans rfl
      · have ht := turned_store wr rb 0 (.slice oa us.length oc)
        have hl := HLT.out
        have h1 := HR1.out.2.2.2
        exact ⟨oa, oc, rfl, (HSP.out.turned codeK_sets ht (fun k _ h1 h2 => by have h1 : wc.heap.size ≤ k := h1; have h2 : k = rb := h2; omega)).mono (fun k h => by have h : wc.heap.size ≤ k := h; show w.heap.size ≤ k; omega), HBW.out.setCell (show w.heap.size ≤ rb by omega) _⟩

end Go.Proofs.Ytajnldkempeheaa
