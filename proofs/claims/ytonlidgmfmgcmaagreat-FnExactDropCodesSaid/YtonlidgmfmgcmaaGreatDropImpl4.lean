/-
  DropCodes, the program's.
-/
import Derived.Test.YtonlidgmfmgcmaaGreatClone
import Derived.Test.YtonlidgmfmgcmaaGreatDp
import Derived.Test.YtonlidgmfmgcmaaGreatHl
import Derived.Test.YtonlidgmfmgcmaaGreatIntClone
import Derived.Deep.DeepCutAuto
namespace Go.Proofs.YtonlidgmfmgcmaaGreat
open Go.RowKit
set_option linter.unusedVariables false

theorem clone_rd (a : Option Addr) (len c : Nat) (xs : List Int) (w : World) (hin : IntsRd w a len xs) (hn : a = none → c = 0) (hs : len ≤ 1099511627776) :
    Calls Tryz.prog 76 #[.slice a len c] w fun e w' => ∃ (a' : Option Addr) (c' : Nat), e = .returned (.slice a' len c') ∧ Hid (IntsK (fun k => w.heap.size ≤ k) w' a' len c' xs ∧ Below w.heap.size w w') := by
  cases a with
  | none =>
    obtain rfl := hn rfl
    have hx : xs = [] := by
      rcases hin.row with h | ⟨_, _, h, _⟩
      · simpa using h
      · cases h
    subst hx
    have hl := hin.length
    simp only [List.length_nil] at hl
    subst hl
    exact (clone_nil w).mono fun e w' ⟨he, hw⟩ => ⟨none, 0, he, Lib.hid ⟨⟨World.ownsRow_nil _ _ _ _, by simp [Value.ownBlock], rfl⟩, hw ▸ Below.refl _ _⟩⟩
  | some ad =>
    exact (clone_some ad len c xs w hin hs).mono fun e w' ⟨a', c', he, ho, hb⟩ => ⟨a', c', he, Lib.hid ⟨⟨own_lower ho (fun k _ => Nat.zero_le _), fun k hk => (ho.lt k hk).1, hin.length⟩, hb⟩⟩
/-- A parameter's block and the result's. -/
theorem two_rows (w : World) (P Z : Obj) : ((w.alloc P).alloc Z).heap[w.heap.size]? = some P ∧ ((w.alloc P).alloc Z).heap[w.heap.size + 1]? = some Z ∧ ((w.alloc P).alloc Z).heap.size = w.heap.size + 2 ∧ Below w.heap.size w ((w.alloc P).alloc Z) := by
  have h2 := heap_alloc_new (w.alloc P) Z
  rw [World.size_alloc] at h2
  exact ⟨heap_alloc2_old w P Z, h2, by rw [World.size_alloc, World.size_alloc], ((Below.refl _ _).alloc (Nat.le_refl _) _).alloc (by simp) _⟩

set_option maxRecDepth 100000 in
set_option maxHeartbeats 2000000 in
theorem clonePhi_any (cs : List Value) (x : PhiD) (w : World) (hR : PhiR w cs x) (hs : szPhiD x ≤ 1048576) :
    Calls Tryz.prog 73 #[.agg cs.toArray] w fun e w' => ∃ cs', e = .returned (.agg (List.toArray cs')) ∧ PhiK (fun k => w.heap.size ≤ k) w' cs' x ∧ Below w.heap.size w w' := by
  obtain ⟨aa, ac, rfl, ⟨am, ar⟩⟩ := hR
  have HA := Lib.hid (And.intro am (And.intro ar hs))
  have H2 := Lib.hid (two_rows w (.cells #[.int .i64 x.to, .slice aa x.args.length ac] 83) (.cells #[.int .i64 0, .slice none 0 0] 83))
  clear am ar hs
  go_enter Tryz.func73, Tryz.ntmps73
  go_upto_region 1 with fail
  obtain ⟨pb, hpb⟩ : ∃ n, n = w.heap.size := ⟨_, rfl⟩
  obtain ⟨rb, hrb⟩ : ∃ n, n = w.heap.size + 1 := ⟨_, rfl⟩
  have HN := Lib.hid (And.intro hpb hrb)
  generalize (w.alloc (.cells #[.int .i64 x.to, .slice aa x.args.length ac] 83)).alloc (.cells #[.int .i64 0, .slice none 0 0] 83) = W2 at H2 ⊢
  have H3 := Lib.hid (show W2.heap[pb]? = some (.cells #[.int .i64 x.to, .slice aa x.args.length ac] 83 (0, 0)) ∧ W2.heap[rb]? = some (.cells #[.int .i64 0, .slice none 0 0] 83 (0, 0)) ∧ W2.heap.size = w.heap.size + 2 ∧ Below w.heap.size w W2 from by rw [hpb, hrb]; exact H2.out)
  rw [← hrb, ← hpb]
  clear hpb hrb H2
  have HCL := Lib.hid (show Calls Tryz.prog 76 #[.slice aa x.args.length ac] W2.drew fun e w' => ∃ (a' : Option Addr) (c' : Nat), e = .returned (.slice a' x.args.length c') ∧ Hid (IntsK (fun k => W2.heap.size ≤ k) w' a' x.args.length c' x.args ∧ Below W2.heap.size W2 w') from
    (clone_rd aa x.args.length ac x.args W2.drew (HA.out.2.1.later (H3.out.2.2.2.drew)) HA.out.1.2 (by have := HA.out.2.2; unfold szPhiD at this; omega)).mono fun e w' ⟨a', c', he, h⟩ => ⟨a', c', he, Lib.hid ⟨h.out.1, ((Below.refl W2.heap.size W2).drew).trans h.out.2⟩⟩)
  have HKP := Lib.hid (show ∀ W, Below W2.heap.size W2 W → (W.cell? ⟨pb, 0, none⟩ = some (.int .i64 x.to) ∧ W.cell? ⟨pb, 1, none⟩ = some (.slice aa x.args.length ac)) from fun W hW => by
    have h0 := cell_of_row _ _ 0 _ _ _ H3.out.1
    have h1 := cell_of_row _ _ 1 _ _ _ H3.out.1
    exact ⟨cell_later hW h0, cell_later hW h1⟩)
  refine wp_region_L (S := (fun W => W.cell? ⟨pb, 0, none⟩ = some (.int .i64 x.to) ∧ W.cell? ⟨pb, 1, none⟩ = some (.slice aa x.args.length ac))) (by kernel_rfl) ?_
  have hHeld := HKP.out _ ((Below.refl W2.heap.size W2).drew)
  refine wpAnyL_take 1 (i := 0) (oi := ⟨some 3, _, _, _, _, _⟩) (v := ?_) rfl (by kernel_rfl) (by kernel_rfl) (by kernel_rfl) (by kernel_rfl) (fun _ _ _ h => h) (Or.inl ⟨by rfl, ?_⟩) hHeld ?_
  rotate_left
  · (intro w hSw; (try dsimp only at hSw); go_simp; all_goals (try with_reducible rfl))
  (try simp only [Act.put, List.setIfInBounds_toArray, List.set_cons_zero, List.set_cons_succ])
  refine wpAnyL_take 5 (i := 1) (oi := ⟨some 4, _, _, _, _, _⟩) (v := ?_) rfl (by kernel_rfl) (by kernel_rfl) (by kernel_rfl) (by kernel_rfl) (fun _ _ _ h => h) (Or.inl ⟨by rfl, ?_⟩) hHeld ?_
  rotate_left
  · (intro w hSw; (try dsimp only at hSw); go_simp; all_goals (try with_reducible rfl))
  (try simp only [Act.put, List.setIfInBounds_toArray, List.set_cons_zero, List.set_cons_succ])
  refine wpAnyL_take 3 (i := 2) (oi := ⟨some 5, _, _, _, _, _⟩) (v := ?_) rfl (by kernel_rfl) (by kernel_rfl) (by kernel_rfl) (by kernel_rfl) (fun _ _ _ h => h) (Or.inl ⟨by rfl, ?_⟩) hHeld ?_
  rotate_left
  · (intro w hSw; (try dsimp only at hSw); go_simp; all_goals (try with_reducible rfl))
  (try simp only [Act.put, List.setIfInBounds_toArray, List.set_cons_zero, List.set_cons_succ])
  refine wpAnyL_take 4 (i := 3) (oi := ⟨some 6, _, _, _, _, _⟩) (v := ?_) rfl (by kernel_rfl) (by kernel_rfl) (by kernel_rfl) (by kernel_rfl) (fun _ _ _ h => h) (Or.inl ⟨by rfl, ?_⟩) hHeld ?_
  rotate_left
  · (intro w hSw; (try dsimp only at hSw); go_simp; all_goals (try with_reducible rfl))
  (try simp only [Act.put, List.setIfInBounds_toArray, List.set_cons_zero, List.set_cons_succ])
  refine wpAnyL_ready (rs := [4]) (by kernel_rfl) (by simp) ?_
  refine AllReadyL.cons (o := ⟨some 7, _, _, _, _, _⟩) rfl (fun K hK => ?_) AllReadyL.nil
  go_simp
  go_at_call 76
  refine HCL.out.mono ?_
  rintro e w3 ⟨a', c', rfl, hc⟩
  have hHeld2 := HKP.out _ hc.out.2
  refine hK.out _ _ (fun _ => hHeld2) ?_
  clear hK K hHeld
  have hHeld := hHeld2
  clear hHeld2
  (try simp only [Act.put, List.setIfInBounds_toArray, List.set_cons_zero, List.set_cons_succ])
  refine wpAnyL_take 6 (i := 5) (oi := ⟨some 8, _, _, _, _, _⟩) (v := ?_) rfl (by kernel_rfl) (by kernel_rfl) (by kernel_rfl) (by kernel_rfl) (fun _ _ _ h => h) (Or.inl ⟨by rfl, ?_⟩) hHeld ?_
  rotate_left
  · (intro w hSw; (try dsimp only at hSw); go_simp; all_goals (try with_reducible rfl))
  (try simp only [Act.put, List.setIfInBounds_toArray, List.set_cons_zero, List.set_cons_succ])
  refine wpAnyL_ready (rs := [6]) (by kernel_rfl) (by simp) ?_
  refine AllReadyL.cons (o := ⟨none, _, _, _, _, _⟩) rfl (fun K hK => ?_) AllReadyL.nil
  have hRow := (hc.out.2.block rb (by have := H3.out.2.2.1; have := HN.out; omega)).trans H3.out.2.1
  have y0 := frozen_of_row _ _ 0 _ _ hRow
  have y1 := frozen_of_row _ _ 1 _ _ hRow
  have r0 := cell_of_row _ _ 0 _ _ _ hRow
  have r1 := cell_of_row _ _ 1 _ _ _ hRow
  simp only [List.getElem?_toArray, List.getElem?_cons_zero, List.getElem?_cons_succ] at r0 r1
  go_simp
  clear y0 y1 r0 r1 hRow
  refine hK.out _ _ (lastL (by kernel_rfl)) ?_
  clear hK K hHeld
  (try simp only [Act.put, List.setIfInBounds_toArray, List.set_cons_zero, List.set_cons_succ])
  refine wpAnyL_done (by kernel_rfl) ?_ _
  have HF := Lib.hid (show Below w.heap.size w (w3.setCells rb 0 [.int .i64 x.to, .slice a' x.args.length c']) ∧ (w3.setCells rb 0 [.int .i64 x.to, .slice a' x.args.length c']).heap[rb]? = some (.cells (List.toArray [.int .i64 x.to, .slice a' x.args.length c']) 83 (0, 0)) ∧ PhiK (fun k => w.heap.size ≤ k) (w3.setCells rb 0 [.int .i64 x.to, .slice a' x.args.length c']) [.int .i64 x.to, .slice a' x.args.length c'] x from by
    have ht := turned_setCells (g := rb) [.int .i64 x.to, .slice a' x.args.length c'] w3 0
    have hn := HN.out
    have hs2 := H3.out.2.2.1
    have hRow := (hc.out.2.block rb (by omega)).trans H3.out.2.1
    have hb3 := H3.out.2.2.2.trans (hc.out.2.mono H3.out.2.2.2.size)
    refine ⟨hb3.trans (ht.below (B := w.heap.size) hb3.size (fun k hk => by have hk : k = rb := hk; omega)), ?_, a', c', rfl, (hc.out.1.turned ht (fun k _ h1 h2 => by have h1 : W2.heap.size ≤ k := h1; have h2 : k = rb := h2; omega)).mono (fun k h => by have h : W2.heap.size ≤ k := h; show w.heap.size ≤ k; omega)⟩
    have := heap_setCells_mid (w := w3) (A := []) (B := [.int .i64 0, .slice none 0 0]) (C := []) (vs := [.int .i64 x.to, .slice a' x.args.length c']) (o := 0) rfl (by simp) (by simpa using hRow)
    simpa using this)
  go_wp2
  refine bodyPost_ret (results_cell_row rfl _ _ rb 83 (List.toArray [.int .i64 x.to, .slice a' x.args.length c']) (0, 0) _ rfl ?_ Tryz.underlying83 rfl (by kernel_rfl)) rfl ?_
  · exact HF.out.2.1
  exact ⟨_, rfl, HF.out.2.2, HF.out.1⟩

set_option maxRecDepth 100000 in
set_option maxHeartbeats 2000000 in
theorem cloneIns_any (cs : List Value) (x : InsD) (w : World) (hR : InsR w cs x) (hs : szInsD x ≤ 1048576) :
    Calls Tryz.prog 75 #[.agg cs.toArray] w fun e w' => ∃ cs', e = .returned (.agg (List.toArray cs')) ∧ InsK (fun k => w.heap.size ≤ k) w' cs' x ∧ Below w.heap.size w w' := by
  obtain ⟨args_a, args_c, rfl, ⟨args_m, args_r⟩⟩ := hR
  unfold szInsD at hs
  have HF_args := Lib.hid (And.intro args_m args_r)
  have HS := Lib.hid hs
  have H2 := Lib.hid (two_rows w (.cells #[.int .i64 x.op, .int .i64 x.to, .slice args_a x.args.length args_c, .int .i64 x.num] 45) (.cells #[.int .i64 0, .int .i64 0, .slice none 0 0, .int .i64 0] 45))
  clear hs args_m args_r
  go_enter Tryz.func75, Tryz.ntmps75
  go_upto_region 1 with fail
  obtain ⟨pb, hpb⟩ : ∃ n, n = w.heap.size := ⟨_, rfl⟩
  obtain ⟨rb, hrb⟩ : ∃ n, n = w.heap.size + 1 := ⟨_, rfl⟩
  generalize (w.alloc (.cells #[.int .i64 x.op, .int .i64 x.to, .slice args_a x.args.length args_c, .int .i64 x.num] 45)).alloc (.cells #[.int .i64 0, .int .i64 0, .slice none 0 0, .int .i64 0] 45) = W1 at H2 ⊢
  have HR1 := Lib.hid (show Below w.heap.size w W1 ∧ W1.heap[pb]? = some (.cells #[.int .i64 x.op, .int .i64 x.to, .slice args_a x.args.length args_c, .int .i64 x.num] 45 (0, 0)) ∧ W1.heap[rb]? = some (.cells #[.int .i64 0, .int .i64 0, .slice none 0 0, .int .i64 0] 45 (0, 0)) ∧ (pb = w.heap.size ∧ rb = w.heap.size + 1 ∧ rb < W1.heap.size) from by rw [hpb, hrb]; exact ⟨H2.out.2.2.2, H2.out.1, H2.out.2.1, rfl, rfl, by have := H2.out.2.2.1; omega⟩)
  rw [← hrb, ← hpb]
  clear hpb hrb H2
  have k2 := cell_of_row _ _ 2 _ _ _ HR1.out.2.1
  simp only [List.getElem?_toArray, List.getElem?_cons_zero, List.getElem?_cons_succ] at k2
  have HC1 := Lib.hid (show Calls Tryz.prog 76 #[.slice args_a x.args.length args_c] W1 fun e w' => ∃ a' c', e = .returned (.slice a' x.args.length c') ∧ Hid (IntsK (fun k => W1.heap.size ≤ k) w' a' x.args.length c' x.args ∧ Below W1.heap.size W1 w') from
    clone_rd args_a x.args.length args_c x.args W1 (HF_args.out.2.later HR1.out.1) HF_args.out.1.2 (by have := HS.out; omega))
  go_wp2_with fail
  refine HC1.out.mono ?_
  rintro e v1 ⟨args2_a, args2_c, rfl, hc1⟩
  have HV1 := Lib.hid (show Below w.heap.size w v1 ∧ v1.heap[pb]? = some (.cells #[.int .i64 x.op, .int .i64 x.to, .slice args_a x.args.length args_c, .int .i64 x.num] 45 (0, 0)) ∧ v1.heap[rb]? = some (.cells #[.int .i64 0, .int .i64 0, .slice none 0 0, .int .i64 0] 45 (0, 0)) from
    ⟨HR1.out.1.trans (hc1.out.2.mono HR1.out.1.size), (hc1.out.2.block pb (by have := HR1.out.2.2.2; omega)).trans HR1.out.2.1, (hc1.out.2.block rb HR1.out.2.2.2.2.2).trans HR1.out.2.2.1⟩)
  have z2 := cell_of_row _ _ 2 _ _ _ HV1.out.2.1
  have y2 := frozen_of_row _ _ 2 _ _ HV1.out.2.1
  simp only [List.getElem?_toArray, List.getElem?_cons_zero, List.getElem?_cons_succ] at z2
  clear k2 HC1
  go_upto_region 2 with fail
  have HR2 := Lib.hid (show Below w.heap.size w (v1.setCell ⟨pb, 2, none⟩ (.slice args2_a x.args.length args2_c)) ∧ (v1.setCell ⟨pb, 2, none⟩ (.slice args2_a x.args.length args2_c)).heap[pb]? = some (.cells #[.int .i64 x.op, .int .i64 x.to, .slice args2_a x.args.length args2_c, .int .i64 x.num] 45 (0, 0)) ∧ (v1.setCell ⟨pb, 2, none⟩ (.slice args2_a x.args.length args2_c)).heap[rb]? = some (.cells #[.int .i64 0, .int .i64 0, .slice none 0 0, .int .i64 0] 45 (0, 0)) ∧ (pb = w.heap.size ∧ rb = w.heap.size + 1 ∧ rb < (v1.setCell ⟨pb, 2, none⟩ (.slice args2_a x.args.length args2_c)).heap.size) from by
    have hl := HR1.out.2.2.2
    have hsz := hc1.out.2.size
    exact ⟨HV1.out.1.setCell (by show w.heap.size ≤ pb; omega) _, (heap_setCell_same v1 pb 2 _ _ _ HV1.out.2.1).trans rfl, (heap_setCell_other v1 ⟨pb, 2, none⟩ rb _ (by show rb ≠ pb; omega)).trans HV1.out.2.2, hl.1, hl.2.1, by rw [World.size_setCell]; omega⟩)
  have HK_args := Lib.hid (show IntsK (fun k => W1.heap.size ≤ k ∧ k < v1.heap.size) (v1.setCell ⟨pb, 2, none⟩ (.slice args2_a x.args.length args2_c)) args2_a x.args.length args2_c x.args ∧ rb < W1.heap.size ∧ W1.heap.size ≤ v1.heap.size ∧ v1.heap.size ≤ (v1.setCell ⟨pb, 2, none⟩ (.slice args2_a x.args.length args2_c)).heap.size from
    ⟨hc1.out.1.here.turned (turned_store v1 pb 2 _) (fun k _ h1 h2 => by have h1 : W1.heap.size ≤ k := h1.1; have h2 : k = pb := h2; have := HR1.out.2.2.2; omega), HR1.out.2.2.2.2.2, hc1.out.2.size, by rw [World.size_setCell]; exact Nat.le_refl _⟩)
  have HO1 := Lib.hid (show v1.heap.size ≤ (v1.setCell ⟨pb, 2, none⟩ (.slice args2_a x.args.length args2_c)).heap.size from by rw [World.size_setCell]; exact Nat.le_refl _)
  clear z2 y2 hc1 HV1 HR1
  generalize v1.setCell ⟨pb, 2, none⟩ (.slice args2_a x.args.length args2_c) = W2 at HO1 HR2 HK_args  ⊢
  have p0 := cell_of_row _ _ 0 _ _ _ HR2.out.2.1
  have r0 := cell_of_row _ _ 0 _ _ _ HR2.out.2.2.1
  have y0 := frozen_of_row _ _ 0 _ _ HR2.out.2.2.1
  have p1 := cell_of_row _ _ 1 _ _ _ HR2.out.2.1
  have r1 := cell_of_row _ _ 1 _ _ _ HR2.out.2.2.1
  have y1 := frozen_of_row _ _ 1 _ _ HR2.out.2.2.1
  have p2 := cell_of_row _ _ 2 _ _ _ HR2.out.2.1
  have r2 := cell_of_row _ _ 2 _ _ _ HR2.out.2.2.1
  have y2 := frozen_of_row _ _ 2 _ _ HR2.out.2.2.1
  have p3 := cell_of_row _ _ 3 _ _ _ HR2.out.2.1
  have r3 := cell_of_row _ _ 3 _ _ _ HR2.out.2.2.1
  have y3 := frozen_of_row _ _ 3 _ _ HR2.out.2.2.1
  simp only [List.getElem?_toArray, List.getElem?_cons_zero, List.getElem?_cons_succ] at p0 r0 p1 r1 p2 r2 p3 r3
  have HFIN := Lib.hid (show Below w.heap.size w (W2.setCells rb 0 [.int .i64 x.op, .int .i64 x.to, .slice args2_a x.args.length args2_c, .int .i64 x.num]) ∧ (W2.setCells rb 0 [.int .i64 x.op, .int .i64 x.to, .slice args2_a x.args.length args2_c, .int .i64 x.num]).heap[rb]? = some (.cells (List.toArray [.int .i64 x.op, .int .i64 x.to, .slice args2_a x.args.length args2_c, .int .i64 x.num]) 45 (0, 0)) ∧ InsK (fun k => w.heap.size ≤ k) (W2.setCells rb 0 [.int .i64 x.op, .int .i64 x.to, .slice args2_a x.args.length args2_c, .int .i64 x.num]) [.int .i64 x.op, .int .i64 x.to, .slice args2_a x.args.length args2_c, .int .i64 x.num] x from by
    have ht := turned_setCells (g := rb) [.int .i64 x.op, .int .i64 x.to, .slice args2_a x.args.length args2_c, .int .i64 x.num] W2 0
    have hl := HR2.out.2.2.2
    have hk_args := HK_args.out.1.turned ht (fun k _ h1 h2 => by have h2 : k = rb := h2; have := HK_args.out.2.1; omega)
    refine ⟨HR2.out.1.trans (ht.below (B := w.heap.size) HR2.out.1.size (fun k hk => by have hk : k = rb := hk; omega)), ?_, ?_⟩
    · have := heap_setCells_mid (w := W2) (A := []) (B := [.int .i64 0, .int .i64 0, .slice none 0 0, .int .i64 0]) (C := []) (vs := [.int .i64 x.op, .int .i64 x.to, .slice args2_a x.args.length args2_c, .int .i64 x.num]) (o := 0) rfl (by simp) (by simpa using HR2.out.2.2.1)
      simpa using this
    refine ⟨args2_a, args2_c, rfl, hk_args.mono (fun k h => by have := HK_args.out; show w.heap.size ≤ k; omega)⟩
    )
  go_wp2
  refine bodyPost_ret (results_cell_row rfl _ _ rb 45 (List.toArray [.int .i64 x.op, .int .i64 x.to, .slice args2_a x.args.length args2_c, .int .i64 x.num]) (0, 0) _ rfl ?_ Tryz.underlying45 rfl (by kernel_rfl)) rfl ?_
  · exact HFIN.out.2.1
  exact ⟨_, rfl, HFIN.out.2.2, HFIN.out.1⟩

set_option maxRecDepth 100000 in
set_option maxHeartbeats 2000000 in
theorem cloneBlock_any (cs : List Value) (x : BlockD) (w : World) (hR : BlockR w cs x) (hs : szBlockD x ≤ 1048576) :
    Calls Tryz.prog 50 #[.agg cs.toArray] w fun e w' => ∃ cs', e = .returned (.agg (List.toArray cs')) ∧ BlockK (fun k => w.heap.size ≤ k) w' cs' x ∧ Below w.heap.size w w' := by
  obtain ⟨phis_a, phis_c, ins_a, ins_c, nx_a, nx_c, rfl, ⟨phis_m, phis_r⟩, ⟨ins_m, ins_r⟩, ⟨nx_m, nx_r⟩⟩ := hR
  unfold szBlockD at hs
  have HF_phis := Lib.hid (And.intro phis_m phis_r)
  have HF_ins := Lib.hid (And.intro ins_m ins_r)
  have HF_nx := Lib.hid (And.intro nx_m nx_r)
  have HS := Lib.hid hs
  have H2 := Lib.hid (two_rows w (.cells #[.slice phis_a x.phis.length phis_c, .slice ins_a x.ins.length ins_c, .int .i64 x.jump, .int .i64 x.jon, .slice nx_a x.nx.length nx_c] 49) (.cells #[.slice none 0 0, .slice none 0 0, .int .i64 0, .int .i64 0, .slice none 0 0] 49))
  clear hs phis_m phis_r ins_m ins_r nx_m nx_r
  go_enter Tryz.func50, Tryz.ntmps50
  go_upto_region 1 with fail
  obtain ⟨pb, hpb⟩ : ∃ n, n = w.heap.size := ⟨_, rfl⟩
  obtain ⟨rb, hrb⟩ : ∃ n, n = w.heap.size + 1 := ⟨_, rfl⟩
  generalize (w.alloc (.cells #[.slice phis_a x.phis.length phis_c, .slice ins_a x.ins.length ins_c, .int .i64 x.jump, .int .i64 x.jon, .slice nx_a x.nx.length nx_c] 49)).alloc (.cells #[.slice none 0 0, .slice none 0 0, .int .i64 0, .int .i64 0, .slice none 0 0] 49) = W1 at H2 ⊢
  have HR1 := Lib.hid (show Below w.heap.size w W1 ∧ W1.heap[pb]? = some (.cells #[.slice phis_a x.phis.length phis_c, .slice ins_a x.ins.length ins_c, .int .i64 x.jump, .int .i64 x.jon, .slice nx_a x.nx.length nx_c] 49 (0, 0)) ∧ W1.heap[rb]? = some (.cells #[.slice none 0 0, .slice none 0 0, .int .i64 0, .int .i64 0, .slice none 0 0] 49 (0, 0)) ∧ (pb = w.heap.size ∧ rb = w.heap.size + 1 ∧ rb < W1.heap.size) from by rw [hpb, hrb]; exact ⟨H2.out.2.2.2, H2.out.1, H2.out.2.1, rfl, rfl, by have := H2.out.2.2.1; omega⟩)
  rw [← hrb, ← hpb]
  clear hpb hrb H2
  have k0 := cell_of_row _ _ 0 _ _ _ HR1.out.2.1
  simp only [List.getElem?_toArray, List.getElem?_cons_zero] at k0
  have HC1 := Lib.hid (show Calls Tryz.prog 72 #[.slice phis_a x.phis.length phis_c, .func (.func 73) #[] #[]] W1 fun e w' => ∃ a' c', e = .returned (.slice a' x.phis.length c') ∧ Hid (SepK 2 83 PhiK (fun k => W1.heap.size ≤ k) w' a' x.phis.length c' x.phis ∧ Below W1.heap.size W1 w') from
    (mappedPhi_any 73 #[] phis_a phis_c x.phis W1 (HF_phis.out.2.later phiR_lasts HR1.out.1) (by have := HS.out; have := szS_len szPhiD x.phis; omega) (fun _ _ => rfl) (fun y hy cs W hb hR => by
      have h := clonePhi_any cs y W hR (by have := HS.out; have := szS_mem (sz := szPhiD) hy; omega)
      exact h)).mono fun e w' ⟨a', c', he, h1, h2⟩ => ⟨a', c', he, Lib.hid ⟨h1, h2⟩⟩)
  go_wp2_with fail
  refine HC1.out.mono ?_
  rintro e v1 ⟨phis2_a, phis2_c, rfl, hc1⟩
  have HV1 := Lib.hid (show Below w.heap.size w v1 ∧ v1.heap[pb]? = some (.cells #[.slice phis_a x.phis.length phis_c, .slice ins_a x.ins.length ins_c, .int .i64 x.jump, .int .i64 x.jon, .slice nx_a x.nx.length nx_c] 49 (0, 0)) ∧ v1.heap[rb]? = some (.cells #[.slice none 0 0, .slice none 0 0, .int .i64 0, .int .i64 0, .slice none 0 0] 49 (0, 0)) from
    ⟨HR1.out.1.trans (hc1.out.2.mono HR1.out.1.size), (hc1.out.2.block pb (by have := HR1.out.2.2.2; omega)).trans HR1.out.2.1, (hc1.out.2.block rb HR1.out.2.2.2.2.2).trans HR1.out.2.2.1⟩)
  have z0 := cell_of_row _ _ 0 _ _ _ HV1.out.2.1
  have y0 := frozen_of_row _ _ 0 _ _ HV1.out.2.1
  simp only [List.getElem?_toArray, List.getElem?_cons_zero] at z0
  clear k0 HC1
  go_upto_region 2 with fail
  have HR2 := Lib.hid (show Below w.heap.size w (v1.setCell ⟨pb, 0, none⟩ (.slice phis2_a x.phis.length phis2_c)) ∧ (v1.setCell ⟨pb, 0, none⟩ (.slice phis2_a x.phis.length phis2_c)).heap[pb]? = some (.cells #[.slice phis2_a x.phis.length phis2_c, .slice ins_a x.ins.length ins_c, .int .i64 x.jump, .int .i64 x.jon, .slice nx_a x.nx.length nx_c] 49 (0, 0)) ∧ (v1.setCell ⟨pb, 0, none⟩ (.slice phis2_a x.phis.length phis2_c)).heap[rb]? = some (.cells #[.slice none 0 0, .slice none 0 0, .int .i64 0, .int .i64 0, .slice none 0 0] 49 (0, 0)) ∧ (pb = w.heap.size ∧ rb = w.heap.size + 1 ∧ rb < (v1.setCell ⟨pb, 0, none⟩ (.slice phis2_a x.phis.length phis2_c)).heap.size) from by
    have hl := HR1.out.2.2.2
    have hsz := hc1.out.2.size
    exact ⟨HV1.out.1.setCell (by show w.heap.size ≤ pb; omega) _, (heap_setCell_same v1 pb 0 _ _ _ HV1.out.2.1).trans rfl, (heap_setCell_other v1 ⟨pb, 0, none⟩ rb _ (by show rb ≠ pb; omega)).trans HV1.out.2.2, hl.1, hl.2.1, by rw [World.size_setCell]; omega⟩)
  have HK_phis := Lib.hid (show SepK 2 83 PhiK (fun k => W1.heap.size ≤ k ∧ k < v1.heap.size) (v1.setCell ⟨pb, 0, none⟩ (.slice phis2_a x.phis.length phis2_c)) phis2_a x.phis.length phis2_c x.phis ∧ rb < W1.heap.size ∧ W1.heap.size ≤ v1.heap.size ∧ v1.heap.size ≤ (v1.setCell ⟨pb, 0, none⟩ (.slice phis2_a x.phis.length phis2_c)).heap.size from
    ⟨(hc1.out.1.here phiK_sets).turned phiK_sets (turned_store v1 pb 0 _) (fun k _ h1 h2 => by have h1 : W1.heap.size ≤ k := h1.1; have h2 : k = pb := h2; have := HR1.out.2.2.2; omega), HR1.out.2.2.2.2.2, hc1.out.2.size, by rw [World.size_setCell]; exact Nat.le_refl _⟩)
  have HO1 := Lib.hid (show v1.heap.size ≤ (v1.setCell ⟨pb, 0, none⟩ (.slice phis2_a x.phis.length phis2_c)).heap.size from by rw [World.size_setCell]; exact Nat.le_refl _)
  clear z0 y0 hc1 HV1 HR1
  generalize v1.setCell ⟨pb, 0, none⟩ (.slice phis2_a x.phis.length phis2_c) = W2 at HO1 HR2 HK_phis  ⊢
  have k1 := cell_of_row _ _ 1 _ _ _ HR2.out.2.1
  simp only [List.getElem?_toArray, List.getElem?_cons_zero, List.getElem?_cons_succ] at k1
  have HC2 := Lib.hid (show Calls Tryz.prog 74 #[.slice ins_a x.ins.length ins_c, .func (.func 75) #[] #[]] W2 fun e w' => ∃ a' c', e = .returned (.slice a' x.ins.length c') ∧ Hid (SepK 4 45 InsK (fun k => W2.heap.size ≤ k) w' a' x.ins.length c' x.ins ∧ Below W2.heap.size W2 w') from
    (mappedIns_any 75 #[] ins_a ins_c x.ins W2 (HF_ins.out.2.later insR_lasts HR2.out.1) (by have := HS.out; have := szS_len szInsD x.ins; omega) (fun _ _ => rfl) (fun y hy cs W hb hR => by
      have h := cloneIns_any cs y W hR (by have := HS.out; have := szS_mem (sz := szInsD) hy; omega)
      exact h)).mono fun e w' ⟨a', c', he, h1, h2⟩ => ⟨a', c', he, Lib.hid ⟨h1, h2⟩⟩)
  go_wp2_with fail
  refine HC2.out.mono ?_
  rintro e v2 ⟨ins2_a, ins2_c, rfl, hc2⟩
  have HV2 := Lib.hid (show Below w.heap.size w v2 ∧ v2.heap[pb]? = some (.cells #[.slice phis2_a x.phis.length phis2_c, .slice ins_a x.ins.length ins_c, .int .i64 x.jump, .int .i64 x.jon, .slice nx_a x.nx.length nx_c] 49 (0, 0)) ∧ v2.heap[rb]? = some (.cells #[.slice none 0 0, .slice none 0 0, .int .i64 0, .int .i64 0, .slice none 0 0] 49 (0, 0)) from
    ⟨HR2.out.1.trans (hc2.out.2.mono HR2.out.1.size), (hc2.out.2.block pb (by have := HR2.out.2.2.2; omega)).trans HR2.out.2.1, (hc2.out.2.block rb HR2.out.2.2.2.2.2).trans HR2.out.2.2.1⟩)
  have z1 := cell_of_row _ _ 1 _ _ _ HV2.out.2.1
  have y1 := frozen_of_row _ _ 1 _ _ HV2.out.2.1
  simp only [List.getElem?_toArray, List.getElem?_cons_zero, List.getElem?_cons_succ] at z1
  clear k1 HC2
  go_upto_region 3 with fail
  have HR3 := Lib.hid (show Below w.heap.size w (v2.setCell ⟨pb, 1, none⟩ (.slice ins2_a x.ins.length ins2_c)) ∧ (v2.setCell ⟨pb, 1, none⟩ (.slice ins2_a x.ins.length ins2_c)).heap[pb]? = some (.cells #[.slice phis2_a x.phis.length phis2_c, .slice ins2_a x.ins.length ins2_c, .int .i64 x.jump, .int .i64 x.jon, .slice nx_a x.nx.length nx_c] 49 (0, 0)) ∧ (v2.setCell ⟨pb, 1, none⟩ (.slice ins2_a x.ins.length ins2_c)).heap[rb]? = some (.cells #[.slice none 0 0, .slice none 0 0, .int .i64 0, .int .i64 0, .slice none 0 0] 49 (0, 0)) ∧ (pb = w.heap.size ∧ rb = w.heap.size + 1 ∧ rb < (v2.setCell ⟨pb, 1, none⟩ (.slice ins2_a x.ins.length ins2_c)).heap.size) from by
    have hl := HR2.out.2.2.2
    have hsz := hc2.out.2.size
    exact ⟨HV2.out.1.setCell (by show w.heap.size ≤ pb; omega) _, (heap_setCell_same v2 pb 1 _ _ _ HV2.out.2.1).trans rfl, (heap_setCell_other v2 ⟨pb, 1, none⟩ rb _ (by show rb ≠ pb; omega)).trans HV2.out.2.2, hl.1, hl.2.1, by rw [World.size_setCell]; omega⟩)
  have HK_ins := Lib.hid (show SepK 4 45 InsK (fun k => W2.heap.size ≤ k ∧ k < v2.heap.size) (v2.setCell ⟨pb, 1, none⟩ (.slice ins2_a x.ins.length ins2_c)) ins2_a x.ins.length ins2_c x.ins ∧ rb < W2.heap.size ∧ W2.heap.size ≤ v2.heap.size ∧ v2.heap.size ≤ (v2.setCell ⟨pb, 1, none⟩ (.slice ins2_a x.ins.length ins2_c)).heap.size from
    ⟨(hc2.out.1.here insK_sets).turned insK_sets (turned_store v2 pb 1 _) (fun k _ h1 h2 => by have h1 : W2.heap.size ≤ k := h1.1; have h2 : k = pb := h2; have := HR2.out.2.2.2; omega), HR2.out.2.2.2.2.2, hc2.out.2.size, by rw [World.size_setCell]; exact Nat.le_refl _⟩)
  have HK_phis := Lib.hid (show SepK 2 83 PhiK (fun k => W1.heap.size ≤ k ∧ k < v1.heap.size) (v2.setCell ⟨pb, 1, none⟩ (.slice ins2_a x.ins.length ins2_c)) phis2_a x.phis.length phis2_c x.phis ∧ rb < W1.heap.size ∧ W1.heap.size ≤ v1.heap.size ∧ v1.heap.size ≤ (v2.setCell ⟨pb, 1, none⟩ (.slice ins2_a x.ins.length ins2_c)).heap.size from
    ⟨(HK_phis.out.1.below phiK_sets hc2.out.2).turned phiK_sets (turned_store v2 pb 1 _) (fun k _ h1 h2 => by have h1 : W1.heap.size ≤ k := h1.1; have h2 : k = pb := h2; have := HR2.out.2.2.2; have := HK_phis.out.2.1; omega), HK_phis.out.2.1, HK_phis.out.2.2.1, by have := HK_phis.out.2.2.2; have := hc2.out.2.size; rw [World.size_setCell]; omega⟩)
  have HO2 := Lib.hid (show v2.heap.size ≤ (v2.setCell ⟨pb, 1, none⟩ (.slice ins2_a x.ins.length ins2_c)).heap.size from by rw [World.size_setCell]; exact Nat.le_refl _)
  clear z1 y1 hc2 HV2 HR2
  generalize v2.setCell ⟨pb, 1, none⟩ (.slice ins2_a x.ins.length ins2_c) = W3 at HO2 HR3 HK_ins HK_phis ⊢
  have k4 := cell_of_row _ _ 4 _ _ _ HR3.out.2.1
  simp only [List.getElem?_toArray, List.getElem?_cons_zero, List.getElem?_cons_succ] at k4
  have HC3 := Lib.hid (show Calls Tryz.prog 76 #[.slice nx_a x.nx.length nx_c] W3 fun e w' => ∃ a' c', e = .returned (.slice a' x.nx.length c') ∧ Hid (IntsK (fun k => W3.heap.size ≤ k) w' a' x.nx.length c' x.nx ∧ Below W3.heap.size W3 w') from
    clone_rd nx_a x.nx.length nx_c x.nx W3 (HF_nx.out.2.later HR3.out.1) HF_nx.out.1.2 (by have := HS.out; omega))
  go_wp2_with fail
  refine HC3.out.mono ?_
  rintro e v3 ⟨nx2_a, nx2_c, rfl, hc3⟩
  have HV3 := Lib.hid (show Below w.heap.size w v3 ∧ v3.heap[pb]? = some (.cells #[.slice phis2_a x.phis.length phis2_c, .slice ins2_a x.ins.length ins2_c, .int .i64 x.jump, .int .i64 x.jon, .slice nx_a x.nx.length nx_c] 49 (0, 0)) ∧ v3.heap[rb]? = some (.cells #[.slice none 0 0, .slice none 0 0, .int .i64 0, .int .i64 0, .slice none 0 0] 49 (0, 0)) from
    ⟨HR3.out.1.trans (hc3.out.2.mono HR3.out.1.size), (hc3.out.2.block pb (by have := HR3.out.2.2.2; omega)).trans HR3.out.2.1, (hc3.out.2.block rb HR3.out.2.2.2.2.2).trans HR3.out.2.2.1⟩)
  have z4 := cell_of_row _ _ 4 _ _ _ HV3.out.2.1
  have y4 := frozen_of_row _ _ 4 _ _ HV3.out.2.1
  simp only [List.getElem?_toArray, List.getElem?_cons_zero, List.getElem?_cons_succ] at z4
  clear k4 HC3
  go_upto_region 4 with fail
  have HR4 := Lib.hid (show Below w.heap.size w (v3.setCell ⟨pb, 4, none⟩ (.slice nx2_a x.nx.length nx2_c)) ∧ (v3.setCell ⟨pb, 4, none⟩ (.slice nx2_a x.nx.length nx2_c)).heap[pb]? = some (.cells #[.slice phis2_a x.phis.length phis2_c, .slice ins2_a x.ins.length ins2_c, .int .i64 x.jump, .int .i64 x.jon, .slice nx2_a x.nx.length nx2_c] 49 (0, 0)) ∧ (v3.setCell ⟨pb, 4, none⟩ (.slice nx2_a x.nx.length nx2_c)).heap[rb]? = some (.cells #[.slice none 0 0, .slice none 0 0, .int .i64 0, .int .i64 0, .slice none 0 0] 49 (0, 0)) ∧ (pb = w.heap.size ∧ rb = w.heap.size + 1 ∧ rb < (v3.setCell ⟨pb, 4, none⟩ (.slice nx2_a x.nx.length nx2_c)).heap.size) from by
    have hl := HR3.out.2.2.2
    have hsz := hc3.out.2.size
    exact ⟨HV3.out.1.setCell (by show w.heap.size ≤ pb; omega) _, (heap_setCell_same v3 pb 4 _ _ _ HV3.out.2.1).trans rfl, (heap_setCell_other v3 ⟨pb, 4, none⟩ rb _ (by show rb ≠ pb; omega)).trans HV3.out.2.2, hl.1, hl.2.1, by rw [World.size_setCell]; omega⟩)
  have HK_nx := Lib.hid (show IntsK (fun k => W3.heap.size ≤ k ∧ k < v3.heap.size) (v3.setCell ⟨pb, 4, none⟩ (.slice nx2_a x.nx.length nx2_c)) nx2_a x.nx.length nx2_c x.nx ∧ rb < W3.heap.size ∧ W3.heap.size ≤ v3.heap.size ∧ v3.heap.size ≤ (v3.setCell ⟨pb, 4, none⟩ (.slice nx2_a x.nx.length nx2_c)).heap.size from
    ⟨hc3.out.1.here.turned (turned_store v3 pb 4 _) (fun k _ h1 h2 => by have h1 : W3.heap.size ≤ k := h1.1; have h2 : k = pb := h2; have := HR3.out.2.2.2; omega), HR3.out.2.2.2.2.2, hc3.out.2.size, by rw [World.size_setCell]; exact Nat.le_refl _⟩)
  have HK_phis := Lib.hid (show SepK 2 83 PhiK (fun k => W1.heap.size ≤ k ∧ k < v1.heap.size) (v3.setCell ⟨pb, 4, none⟩ (.slice nx2_a x.nx.length nx2_c)) phis2_a x.phis.length phis2_c x.phis ∧ rb < W1.heap.size ∧ W1.heap.size ≤ v1.heap.size ∧ v1.heap.size ≤ (v3.setCell ⟨pb, 4, none⟩ (.slice nx2_a x.nx.length nx2_c)).heap.size from
    ⟨(HK_phis.out.1.below phiK_sets hc3.out.2).turned phiK_sets (turned_store v3 pb 4 _) (fun k _ h1 h2 => by have h1 : W1.heap.size ≤ k := h1.1; have h2 : k = pb := h2; have := HR3.out.2.2.2; have := HK_phis.out.2.1; omega), HK_phis.out.2.1, HK_phis.out.2.2.1, by have := HK_phis.out.2.2.2; have := hc3.out.2.size; rw [World.size_setCell]; omega⟩)
  have HK_ins := Lib.hid (show SepK 4 45 InsK (fun k => W2.heap.size ≤ k ∧ k < v2.heap.size) (v3.setCell ⟨pb, 4, none⟩ (.slice nx2_a x.nx.length nx2_c)) ins2_a x.ins.length ins2_c x.ins ∧ rb < W2.heap.size ∧ W2.heap.size ≤ v2.heap.size ∧ v2.heap.size ≤ (v3.setCell ⟨pb, 4, none⟩ (.slice nx2_a x.nx.length nx2_c)).heap.size from
    ⟨(HK_ins.out.1.below insK_sets hc3.out.2).turned insK_sets (turned_store v3 pb 4 _) (fun k _ h1 h2 => by have h1 : W2.heap.size ≤ k := h1.1; have h2 : k = pb := h2; have := HR3.out.2.2.2; have := HK_ins.out.2.1; omega), HK_ins.out.2.1, HK_ins.out.2.2.1, by have := HK_ins.out.2.2.2; have := hc3.out.2.size; rw [World.size_setCell]; omega⟩)
  have HO3 := Lib.hid (show v3.heap.size ≤ (v3.setCell ⟨pb, 4, none⟩ (.slice nx2_a x.nx.length nx2_c)).heap.size from by rw [World.size_setCell]; exact Nat.le_refl _)
  clear z4 y4 hc3 HV3 HR3
  generalize v3.setCell ⟨pb, 4, none⟩ (.slice nx2_a x.nx.length nx2_c) = W4 at HO3 HR4 HK_nx HK_phis HK_ins ⊢
  have p0 := cell_of_row _ _ 0 _ _ _ HR4.out.2.1
  have r0 := cell_of_row _ _ 0 _ _ _ HR4.out.2.2.1
  have y0 := frozen_of_row _ _ 0 _ _ HR4.out.2.2.1
  have p1 := cell_of_row _ _ 1 _ _ _ HR4.out.2.1
  have r1 := cell_of_row _ _ 1 _ _ _ HR4.out.2.2.1
  have y1 := frozen_of_row _ _ 1 _ _ HR4.out.2.2.1
  have p2 := cell_of_row _ _ 2 _ _ _ HR4.out.2.1
  have r2 := cell_of_row _ _ 2 _ _ _ HR4.out.2.2.1
  have y2 := frozen_of_row _ _ 2 _ _ HR4.out.2.2.1
  have p3 := cell_of_row _ _ 3 _ _ _ HR4.out.2.1
  have r3 := cell_of_row _ _ 3 _ _ _ HR4.out.2.2.1
  have y3 := frozen_of_row _ _ 3 _ _ HR4.out.2.2.1
  have p4 := cell_of_row _ _ 4 _ _ _ HR4.out.2.1
  have r4 := cell_of_row _ _ 4 _ _ _ HR4.out.2.2.1
  have y4 := frozen_of_row _ _ 4 _ _ HR4.out.2.2.1
  simp only [List.getElem?_toArray, List.getElem?_cons_zero, List.getElem?_cons_succ] at p0 r0 p1 r1 p2 r2 p3 r3 p4 r4
  have HFIN := Lib.hid (show Below w.heap.size w (W4.setCells rb 0 [.slice phis2_a x.phis.length phis2_c, .slice ins2_a x.ins.length ins2_c, .int .i64 x.jump, .int .i64 x.jon, .slice nx2_a x.nx.length nx2_c]) ∧ (W4.setCells rb 0 [.slice phis2_a x.phis.length phis2_c, .slice ins2_a x.ins.length ins2_c, .int .i64 x.jump, .int .i64 x.jon, .slice nx2_a x.nx.length nx2_c]).heap[rb]? = some (.cells (List.toArray [.slice phis2_a x.phis.length phis2_c, .slice ins2_a x.ins.length ins2_c, .int .i64 x.jump, .int .i64 x.jon, .slice nx2_a x.nx.length nx2_c]) 49 (0, 0)) ∧ BlockK (fun k => w.heap.size ≤ k) (W4.setCells rb 0 [.slice phis2_a x.phis.length phis2_c, .slice ins2_a x.ins.length ins2_c, .int .i64 x.jump, .int .i64 x.jon, .slice nx2_a x.nx.length nx2_c]) [.slice phis2_a x.phis.length phis2_c, .slice ins2_a x.ins.length ins2_c, .int .i64 x.jump, .int .i64 x.jon, .slice nx2_a x.nx.length nx2_c] x from by
    have ht := turned_setCells (g := rb) [.slice phis2_a x.phis.length phis2_c, .slice ins2_a x.ins.length ins2_c, .int .i64 x.jump, .int .i64 x.jon, .slice nx2_a x.nx.length nx2_c] W4 0
    have hl := HR4.out.2.2.2
    have hk_phis := HK_phis.out.1.turned phiK_sets ht (fun k _ h1 h2 => by have h2 : k = rb := h2; have := HK_phis.out.2.1; omega)
    have hk_ins := HK_ins.out.1.turned insK_sets ht (fun k _ h1 h2 => by have h2 : k = rb := h2; have := HK_ins.out.2.1; omega)
    have hk_nx := HK_nx.out.1.turned ht (fun k _ h1 h2 => by have h2 : k = rb := h2; have := HK_nx.out.2.1; omega)
    refine ⟨HR4.out.1.trans (ht.below (B := w.heap.size) HR4.out.1.size (fun k hk => by have hk : k = rb := hk; omega)), ?_, ?_⟩
    · have := heap_setCells_mid (w := W4) (A := []) (B := [.slice none 0 0, .slice none 0 0, .int .i64 0, .int .i64 0, .slice none 0 0]) (C := []) (vs := [.slice phis2_a x.phis.length phis2_c, .slice ins2_a x.ins.length ins2_c, .int .i64 x.jump, .int .i64 x.jon, .slice nx2_a x.nx.length nx2_c]) (o := 0) rfl (by simp) (by simpa using HR4.out.2.2.1)
      simpa using this
    refine ⟨phis2_a, phis2_c, ins2_a, ins2_c, nx2_a, nx2_c, _, _, _, rfl, hk_phis, hk_ins, hk_nx, fun k h => ?_, fun k h => ?_, fun k h => ?_⟩
    · have := HK_phis.out; have := HK_ins.out; have := HK_nx.out; have := HO1.out; have := HO2.out; have := HO3.out; exact ⟨by show w.heap.size ≤ k; omega, fun q => by omega, fun q => by omega⟩
    · have := HK_phis.out; have := HK_ins.out; have := HK_nx.out; have := HO1.out; have := HO2.out; have := HO3.out; exact ⟨by show w.heap.size ≤ k; omega, fun q => by omega, fun q => by omega⟩
    · have := HK_phis.out; have := HK_ins.out; have := HK_nx.out; have := HO1.out; have := HO2.out; have := HO3.out; exact ⟨by show w.heap.size ≤ k; omega, fun q => by omega, fun q => by omega⟩
    )
  go_wp2
  refine bodyPost_ret (results_cell_row rfl _ _ rb 49 (List.toArray [.slice phis2_a x.phis.length phis2_c, .slice ins2_a x.ins.length ins2_c, .int .i64 x.jump, .int .i64 x.jon, .slice nx2_a x.nx.length nx2_c]) (0, 0) _ rfl ?_ Tryz.underlying49 rfl (by kernel_rfl)) rfl ?_
  · exact HFIN.out.2.1
  exact ⟨_, rfl, HFIN.out.2.2, HFIN.out.1⟩

set_option maxRecDepth 100000 in
set_option maxHeartbeats 2000000 in
theorem cloneCode_any (cs : List Value) (x : CodeD) (w : World) (hR : CodeR w cs x) (hs : szCodeD x ≤ 1048576) :
    Calls Tryz.prog 30 #[.agg cs.toArray] w fun e w' => ∃ cs', e = .returned (.agg (List.toArray cs')) ∧ CodeK (fun k => w.heap.size ≤ k) w' cs' x ∧ Below w.heap.size w w' := by
  obtain ⟨blocks_a, blocks_c, rfl, ⟨blocks_m, blocks_r⟩⟩ := hR
  unfold szCodeD at hs
  have HF_blocks := Lib.hid (And.intro blocks_m blocks_r)
  have HS := Lib.hid hs
  have H2 := Lib.hid (two_rows w (.cells #[.int .i64 x.params, .int .i64 x.regs, .slice blocks_a x.blocks.length blocks_c] 52) (.cells #[.int .i64 0, .int .i64 0, .slice none 0 0] 52))
  clear hs blocks_m blocks_r
  go_enter Tryz.func30, Tryz.ntmps30
  go_upto_region 1 with fail
  obtain ⟨pb, hpb⟩ : ∃ n, n = w.heap.size := ⟨_, rfl⟩
  obtain ⟨rb, hrb⟩ : ∃ n, n = w.heap.size + 1 := ⟨_, rfl⟩
  generalize (w.alloc (.cells #[.int .i64 x.params, .int .i64 x.regs, .slice blocks_a x.blocks.length blocks_c] 52)).alloc (.cells #[.int .i64 0, .int .i64 0, .slice none 0 0] 52) = W1 at H2 ⊢
  have HR1 := Lib.hid (show Below w.heap.size w W1 ∧ W1.heap[pb]? = some (.cells #[.int .i64 x.params, .int .i64 x.regs, .slice blocks_a x.blocks.length blocks_c] 52 (0, 0)) ∧ W1.heap[rb]? = some (.cells #[.int .i64 0, .int .i64 0, .slice none 0 0] 52 (0, 0)) ∧ (pb = w.heap.size ∧ rb = w.heap.size + 1 ∧ rb < W1.heap.size) from by rw [hpb, hrb]; exact ⟨H2.out.2.2.2, H2.out.1, H2.out.2.1, rfl, rfl, by have := H2.out.2.2.1; omega⟩)
  rw [← hrb, ← hpb]
  clear hpb hrb H2
  have k2 := cell_of_row _ _ 2 _ _ _ HR1.out.2.1
  simp only [List.getElem?_toArray, List.getElem?_cons_zero, List.getElem?_cons_succ] at k2
  have HC1 := Lib.hid (show Calls Tryz.prog 49 #[.slice blocks_a x.blocks.length blocks_c, .func (.func 50) #[] #[]] W1 fun e w' => ∃ a' c', e = .returned (.slice a' x.blocks.length c') ∧ Hid (SepK 5 49 BlockK (fun k => W1.heap.size ≤ k) w' a' x.blocks.length c' x.blocks ∧ Below W1.heap.size W1 w') from
    (mappedBlock_any 50 #[] blocks_a blocks_c x.blocks W1 (HF_blocks.out.2.later blockR_lasts HR1.out.1) (by have := HS.out; have := szS_len szBlockD x.blocks; omega) (fun _ _ => rfl) (fun y hy cs W hb hR => by
      have h := cloneBlock_any cs y W hR (by have := HS.out; have := szS_mem (sz := szBlockD) hy; omega)
      exact h)).mono fun e w' ⟨a', c', he, h1, h2⟩ => ⟨a', c', he, Lib.hid ⟨h1, h2⟩⟩)
  go_wp2_with fail
  refine HC1.out.mono ?_
  rintro e v1 ⟨blocks2_a, blocks2_c, rfl, hc1⟩
  have HV1 := Lib.hid (show Below w.heap.size w v1 ∧ v1.heap[pb]? = some (.cells #[.int .i64 x.params, .int .i64 x.regs, .slice blocks_a x.blocks.length blocks_c] 52 (0, 0)) ∧ v1.heap[rb]? = some (.cells #[.int .i64 0, .int .i64 0, .slice none 0 0] 52 (0, 0)) from
    ⟨HR1.out.1.trans (hc1.out.2.mono HR1.out.1.size), (hc1.out.2.block pb (by have := HR1.out.2.2.2; omega)).trans HR1.out.2.1, (hc1.out.2.block rb HR1.out.2.2.2.2.2).trans HR1.out.2.2.1⟩)
  have z2 := cell_of_row _ _ 2 _ _ _ HV1.out.2.1
  have y2 := frozen_of_row _ _ 2 _ _ HV1.out.2.1
  simp only [List.getElem?_toArray, List.getElem?_cons_zero, List.getElem?_cons_succ] at z2
  clear k2 HC1
  go_upto_region 2 with fail
  have HR2 := Lib.hid (show Below w.heap.size w (v1.setCell ⟨pb, 2, none⟩ (.slice blocks2_a x.blocks.length blocks2_c)) ∧ (v1.setCell ⟨pb, 2, none⟩ (.slice blocks2_a x.blocks.length blocks2_c)).heap[pb]? = some (.cells #[.int .i64 x.params, .int .i64 x.regs, .slice blocks2_a x.blocks.length blocks2_c] 52 (0, 0)) ∧ (v1.setCell ⟨pb, 2, none⟩ (.slice blocks2_a x.blocks.length blocks2_c)).heap[rb]? = some (.cells #[.int .i64 0, .int .i64 0, .slice none 0 0] 52 (0, 0)) ∧ (pb = w.heap.size ∧ rb = w.heap.size + 1 ∧ rb < (v1.setCell ⟨pb, 2, none⟩ (.slice blocks2_a x.blocks.length blocks2_c)).heap.size) from by
    have hl := HR1.out.2.2.2
    have hsz := hc1.out.2.size
    exact ⟨HV1.out.1.setCell (by show w.heap.size ≤ pb; omega) _, (heap_setCell_same v1 pb 2 _ _ _ HV1.out.2.1).trans rfl, (heap_setCell_other v1 ⟨pb, 2, none⟩ rb _ (by show rb ≠ pb; omega)).trans HV1.out.2.2, hl.1, hl.2.1, by rw [World.size_setCell]; omega⟩)
  have HK_blocks := Lib.hid (show SepK 5 49 BlockK (fun k => W1.heap.size ≤ k ∧ k < v1.heap.size) (v1.setCell ⟨pb, 2, none⟩ (.slice blocks2_a x.blocks.length blocks2_c)) blocks2_a x.blocks.length blocks2_c x.blocks ∧ rb < W1.heap.size ∧ W1.heap.size ≤ v1.heap.size ∧ v1.heap.size ≤ (v1.setCell ⟨pb, 2, none⟩ (.slice blocks2_a x.blocks.length blocks2_c)).heap.size from
    ⟨(hc1.out.1.here blockK_sets).turned blockK_sets (turned_store v1 pb 2 _) (fun k _ h1 h2 => by have h1 : W1.heap.size ≤ k := h1.1; have h2 : k = pb := h2; have := HR1.out.2.2.2; omega), HR1.out.2.2.2.2.2, hc1.out.2.size, by rw [World.size_setCell]; exact Nat.le_refl _⟩)
  have HO1 := Lib.hid (show v1.heap.size ≤ (v1.setCell ⟨pb, 2, none⟩ (.slice blocks2_a x.blocks.length blocks2_c)).heap.size from by rw [World.size_setCell]; exact Nat.le_refl _)
  clear z2 y2 hc1 HV1 HR1
  generalize v1.setCell ⟨pb, 2, none⟩ (.slice blocks2_a x.blocks.length blocks2_c) = W2 at HO1 HR2 HK_blocks  ⊢
  have p0 := cell_of_row _ _ 0 _ _ _ HR2.out.2.1
  have r0 := cell_of_row _ _ 0 _ _ _ HR2.out.2.2.1
  have y0 := frozen_of_row _ _ 0 _ _ HR2.out.2.2.1
  have p1 := cell_of_row _ _ 1 _ _ _ HR2.out.2.1
  have r1 := cell_of_row _ _ 1 _ _ _ HR2.out.2.2.1
  have y1 := frozen_of_row _ _ 1 _ _ HR2.out.2.2.1
  have p2 := cell_of_row _ _ 2 _ _ _ HR2.out.2.1
  have r2 := cell_of_row _ _ 2 _ _ _ HR2.out.2.2.1
  have y2 := frozen_of_row _ _ 2 _ _ HR2.out.2.2.1
  simp only [List.getElem?_toArray, List.getElem?_cons_zero, List.getElem?_cons_succ] at p0 r0 p1 r1 p2 r2
  have HFIN := Lib.hid (show Below w.heap.size w (W2.setCells rb 0 [.int .i64 x.params, .int .i64 x.regs, .slice blocks2_a x.blocks.length blocks2_c]) ∧ (W2.setCells rb 0 [.int .i64 x.params, .int .i64 x.regs, .slice blocks2_a x.blocks.length blocks2_c]).heap[rb]? = some (.cells (List.toArray [.int .i64 x.params, .int .i64 x.regs, .slice blocks2_a x.blocks.length blocks2_c]) 52 (0, 0)) ∧ CodeK (fun k => w.heap.size ≤ k) (W2.setCells rb 0 [.int .i64 x.params, .int .i64 x.regs, .slice blocks2_a x.blocks.length blocks2_c]) [.int .i64 x.params, .int .i64 x.regs, .slice blocks2_a x.blocks.length blocks2_c] x from by
    have ht := turned_setCells (g := rb) [.int .i64 x.params, .int .i64 x.regs, .slice blocks2_a x.blocks.length blocks2_c] W2 0
    have hl := HR2.out.2.2.2
    have hk_blocks := HK_blocks.out.1.turned blockK_sets ht (fun k _ h1 h2 => by have h2 : k = rb := h2; have := HK_blocks.out.2.1; omega)
    refine ⟨HR2.out.1.trans (ht.below (B := w.heap.size) HR2.out.1.size (fun k hk => by have hk : k = rb := hk; omega)), ?_, ?_⟩
    · have := heap_setCells_mid (w := W2) (A := []) (B := [.int .i64 0, .int .i64 0, .slice none 0 0]) (C := []) (vs := [.int .i64 x.params, .int .i64 x.regs, .slice blocks2_a x.blocks.length blocks2_c]) (o := 0) rfl (by simp) (by simpa using HR2.out.2.2.1)
      simpa using this
    refine ⟨blocks2_a, blocks2_c, rfl, hk_blocks.mono (fun k h => by have := HK_blocks.out; show w.heap.size ≤ k; omega)⟩
    )
  go_wp2
  refine bodyPost_ret (results_cell_row rfl _ _ rb 52 (List.toArray [.int .i64 x.params, .int .i64 x.regs, .slice blocks2_a x.blocks.length blocks2_c]) (0, 0) _ rfl ?_ Tryz.underlying52 rfl (by kernel_rfl)) rfl ?_
  · exact HFIN.out.2.1
  exact ⟨_, rfl, HFIN.out.2.2, HFIN.out.1⟩

end Go.Proofs.YtonlidgmfmgcmaaGreat

namespace Go.Proofs.YtonlidgmfmgcmaaGreat
open Go.RowKit
set_option linter.unusedVariables false

set_option maxRecDepth 100000 in
set_option maxHeartbeats 4000000 in
theorem mappedCode_any (f : Nat) (caps : Array Value) (g : Int → CodeD) (a : Option Addr) (c : Nat) (xs : List Int) (w : World) (hin : IntsRd w a xs.length xs) (hn : xs.length ≤ 1048576)
    (hen : ∀ v W, (callFunc f (#[v] ++ caps)).run Tryz.prog W = .ok (.enter f (#[v] ++ caps)) W)
    (hf : ∀ z ∈ xs, ∀ W, Below w.heap.size w W → Calls Tryz.prog f (#[.int .i64 z] ++ caps) W fun e w' => ∃ cs', e = .returned (.agg (List.toArray cs')) ∧ CodeK (fun k => W.heap.size ≤ k) w' cs' (g z) ∧ Below W.heap.size W w') :
    Calls Tryz.prog 28 #[.slice a xs.length c, .func (.func f) #[] caps] w fun e w' => ∃ a' c', e = .returned (.slice a' xs.length c') ∧ SepK 3 52 CodeK (fun k => w.heap.size ≤ k) w' a' xs.length c' (xs.map g) ∧ Below w.heap.size w w' := by
  have HF := Lib.hid (And.intro hf hin)
  have hn2 : xs.length ≤ 9223372036854775807 := by omega
  have HN := Lib.hid hn
  clear hf hin hn
  go_enter Tryz.func28, Tryz.ntmps28
  go_wp2_with fail
  go_loopg [5, 10] xs.length (fun G o i wr => ∃ (k : Nat) (oa : Option Addr) (oc : Nat), k + G = xs.length ∧ i = .int .i64 k ∧ o = .slice oa k oc ∧ Hid (SepK 3 52 CodeK (fun b => w.heap.size ≤ b) wr oa k oc ((xs.take k).map g) ∧ Below w.heap.size w wr))
  case atStart => exact ⟨0, none, 0, by omega, rfl, rfl, Lib.hid ⟨by simpa using SepK.nil, Below.refl _ _⟩⟩
  case round =>
    obtain ⟨k, oa, oc, hk, rfl, rfl, HB⟩ := hrel
    by_cases hlt : k < xs.length
    · have hki : (k : Int) < (xs.length : Int) := by omega
      obtain ⟨b, off, z, rfl, hz, c0⟩ := (HF.out.2.later HB.out.2).place hlt
      have HC := Lib.hid (HF.out.1 _ (List.mem_of_getElem? hz) _ HB.out.2)
      have HX := Lib.hid hz
      clear hz
      go_wp2_with fail
      refine HC.out.mono ?_
      rintro e w2 ⟨cs', rfl, hx2, hb2⟩
      have hx2' := codeK_sets.here hx2
      obtain ⟨ba2, bc2, hcs, -⟩ := hx2
      subst hcs
      have HY := Lib.hid (show CodeK (fun k => wr.heap.size ≤ k ∧ k < w2.heap.size) (w2.alloc (.cells #[.int .i64 (g z).params, .int .i64 (g z).regs, .slice ba2 (g z).blocks.length bc2] 52)) [.int .i64 (g z).params, .int .i64 (g z).regs, .slice ba2 (g z).blocks.length bc2] (g z) ∧ Below w.heap.size w (w2.alloc (.cells #[.int .i64 (g z).params, .int .i64 (g z).regs, .slice ba2 (g z).blocks.length bc2] 52)) ∧ Below wr.heap.size wr (w2.alloc (.cells #[.int .i64 (g z).params, .int .i64 (g z).regs, .slice ba2 (g z).blocks.length bc2] 52)) ∧ (w2.alloc (.cells #[.int .i64 (g z).params, .int .i64 (g z).regs, .slice ba2 (g z).blocks.length bc2] 52)).heap.size = w2.heap.size + 1 from by
        have hba2 : Below w2.heap.size w2 (w2.alloc (.cells #[.int .i64 (g z).params, .int .i64 (g z).regs, .slice ba2 (g z).blocks.length bc2] 52)) := (Below.refl _ _).alloc (Nat.le_refl _) _
        have h3 := HB.out.2.trans (hb2.mono HB.out.2.size)
        exact ⟨codeK_sets.below hba2 hx2', h3.trans (hba2.mono h3.size), hb2.trans (hba2.mono hb2.size), World.size_alloc _ _⟩)
      obtain ⟨cells, G, hrows⟩ := (HB.out.1.here codeK_sets).below codeK_sets HY.out.2.2.1
      have HRW := Lib.hid hrows
      have HSZ := Lib.hid (show wr.heap.size ≤ w2.heap.size ∧ w.heap.size ≤ wr.heap.size from ⟨hb2.size, HB.out.2.size⟩)
      clear hrows hx2' hb2 c0
      go_wp2_with (at_builtin; refine app_code rfl (.tmp 14) (.tmp 18) rfl 0 _ k _ rfl HRW.out.own _ 1 [.int .i64 (g z).params, .int .i64 (g z).regs, .slice ba2 (g z).blocks.length bc2] rfl (.inr ⟨_, _, rfl, fun i v hv => by (rw [cell_of_row _ _ (0 + i) _ _ _ (heap_alloc_new w2 _)]); simpa using hv⟩) rfl (by intro u hu; (simp only [List.mem_cons, List.not_mem_nil, or_false] at hu); rcases hu with rfl | rfl | rfl <;> rfl) (by have := HN.out; omega) (Nat.zero_le _) ?_; intro a9 c9 w9 hown9 hg9 hlies9; (have HP9 := Lib.hid (show SepK 3 52 CodeK (fun b => w.heap.size ≤ b) w9 a9 (k + 1) c9 ((xs.take (k + 1)).map g) ∧ Below w.heap.size w w9 from ⟨by (rw [take_succ_of HX.out, List.map_append]); exact HRW.out.push codeK_sets HY.out.1 hown9 hg9 hlies9 (fun k hk => by have := HSZ.out; have := HY.out.2.2.2; exact ⟨by omega, by omega, fun h => by omega⟩) (fun k hk => by have := HSZ.out; have := HY.out.2.2.2; exact ⟨hk.1, by omega⟩) (by have := HSZ.out; have := HY.out.2.2.2; omega), HY.out.2.1.grown hg9 HY.out.2.1.size (fun i hi => (HRW.out.row i hi).1)⟩)); clear hown9 hg9 hlies9)
      go_roundg (gk - 1)
      case measure => omega
      case rel => exact ⟨k + 1, _, _, by omega, by go_num, rfl, HP9⟩
    · obtain rfl : k = xs.length := by omega
      have HL := Lib.hid (show SepK 3 52 CodeK (fun b => w.heap.size ≤ b) wr oa xs.length oc (xs.map g) from by
        have h1 := HB.out.1
        rw [List.take_length] at h1
        exact h1)
      go_wp2
      go_ret
      exact ⟨_, _, rfl, HL.out, HB.out.2⟩

end Go.Proofs.YtonlidgmfmgcmaaGreat

namespace Go.Proofs.YtonlidgmfmgcmaaGreat
open Go.RowKit
set_option linter.unusedVariables false

set_option maxRecDepth 100000 in
set_option maxHeartbeats 4000000 in
theorem dropCode_any (us : List CodeD) (ua : Option Addr) (uc : Nat) (hsz : szS szCodeD us ≤ 1048576) (L : List Int) (la : Option Addr) (lc : Nat) (hLn : L.length ≤ 1048576) (up lp m : Nat) (c : CodeD) (hc : us[m]? = some c) (w : World) (hU : SliceRd 3 CodeR w ua us.length us) (hLr : IntsRd w la L.length L)
    (hu : w.heap[up]? = some (.cells #[.slice ua us.length uc] 30 (0, 0))) (hl : w.heap[lp]? = some (.cells #[.slice la L.length lc] 26 (0, 0))) :
    Calls Tryz.prog 29 #[.int .i64 (m : Int), .pointer (some ⟨up, 0, none⟩), .pointer (some ⟨lp, 0, none⟩)] w fun e w' => ∃ cs', e = .returned (.agg (List.toArray cs')) ∧ CodeK (fun k => w.heap.size ≤ k) w' cs' (dropCode L c) ∧ Below w.heap.size w w' := by
  have hmu : m < us.length := (List.getElem?_eq_some_iff.1 hc).1
  have hszc : szCodeD c ≤ 1048576 := Nat.le_trans (szS_mem (List.mem_of_getElem? hc)) hsz
  have hul : us.length ≤ 1048576 := Nat.le_trans (szS_len szCodeD us) hsz
  obtain ⟨b, off, params, regs, blocks, ba, bc, rfl, hx, c0, c1, c2, hR⟩ := code_place hU hmu
  rw [hc] at hx
  obtain rfl := Option.some.inj hx
  have hb0 : Below w.heap.size w (w.alloc (.cells #[.int .i64 0, .int .i64 0, .slice none 0 0] 52)) := (Below.refl _ _).alloc (Nat.le_refl _) _
  have HZ := Lib.hid (And.intro hb0 (And.intro (heap_alloc_new w (.cells #[.int .i64 0, .int .i64 0, .slice none 0 0] 52)) (World.size_alloc w (.cells #[.int .i64 0, .int .i64 0, .slice none 0 0] 52))))
  have HCL := Lib.hid (cloneCode_any [.int .i64 params, .int .i64 regs, .slice ba blocks.length bc] ⟨params, regs, blocks⟩ (w.alloc (.cells #[.int .i64 0, .int .i64 0, .slice none 0 0] 52)) (codeR_lasts _ _ _ _ hb0 hR) hszc)
  have HLR := Lib.hid (And.intro hLr (And.intro hl hLn))
  have HUP := Lib.hid hu
  have u0 : (w.alloc (.cells #[.int .i64 0, .int .i64 0, .slice none 0 0] 52)).cell? ⟨up, 0, none⟩ = some (.slice (some ⟨b, off, none⟩) us.length uc) := cell_later hb0 (cell_of_row _ _ 0 _ _ _ hu)
  have k0 := cell_later hb0 c0
  have k1 := cell_later hb0 c1
  have k2 := cell_later hb0 c2
  have hmi : (m : Int) < (us.length : Int) := by omega
  have HSZ := Lib.hid hszc
  clear hb0 hR c0 c1 c2 hU hLr hu hl hc hsz hszc hx
  go_enter Tryz.func29, Tryz.ntmps29
  go_upto_region 1 with fail
  obtain ⟨rb, hrb⟩ : ∃ n, n = w.heap.size := ⟨_, rfl⟩
  generalize w.alloc (.cells #[.int .i64 0, .int .i64 0, .slice none 0 0] 52) = W1 at HZ HCL u0 k0 k1 k2 ⊢
  have HZ2 := Lib.hid (show Below w.heap.size w W1 ∧ W1.heap[rb]? = some (.cells #[.int .i64 0, .int .i64 0, .slice none 0 0] 52 (0, 0)) ∧ W1.heap.size = w.heap.size + 1 ∧ rb = w.heap.size from by rw [hrb]; exact ⟨HZ.out.1, HZ.out.2.1, HZ.out.2.2, rfl⟩)
  rw [← hrb]
  clear hrb HZ
  go_wp2_with fail
  refine HCL.out.mono ?_
  rintro e w2 ⟨cs2, rfl, hK2, hb2⟩
  have hK2' := codeK_sets.here hK2
  obtain ⟨ba2, bc2, hcs, -⟩ := hK2
  subst hcs
  obtain ⟨ba2', bc2', hcs, hsep⟩ := hK2'
  simp only [List.cons.injEq, Value.slice.injEq, and_true, true_and] at hcs
  obtain ⟨rfl, rfl⟩ := hcs
  have hba : Below w2.heap.size w2 (w2.alloc (.cells #[.int .i64 params, .int .i64 regs, .slice ba2 blocks.length bc2] 52)) := (Below.refl _ _).alloc (Nat.le_refl _) _
  have HS3 := Lib.hid (show SepK 5 49 BlockK (fun k => W1.heap.size ≤ k ∧ k < w2.heap.size) (w2.alloc (.cells #[.int .i64 params, .int .i64 regs, .slice ba2 blocks.length bc2] 52)) ba2 blocks.length bc2 (hm (dropBlock L) blocks 0) ∧ (w2.alloc (.cells #[.int .i64 params, .int .i64 regs, .slice ba2 blocks.length bc2] 52)).heap[w2.heap.size]? = some (.cells #[.int .i64 params, .int .i64 regs, .slice ba2 blocks.length bc2] 52 (0, 0)) ∧ (w2.alloc (.cells #[.int .i64 params, .int .i64 regs, .slice ba2 blocks.length bc2] 52)).heap[rb]? = some (.cells #[.int .i64 0, .int .i64 0, .slice none 0 0] 52 (0, 0)) ∧ Below w.heap.size w (w2.alloc (.cells #[.int .i64 params, .int .i64 regs, .slice ba2 blocks.length bc2] 52)) ∧ (W1.heap.size = w.heap.size + 1 ∧ rb = w.heap.size ∧ W1.heap.size ≤ w2.heap.size) ∧ w2.heap.size < (w2.alloc (.cells #[.int .i64 params, .int .i64 regs, .slice ba2 blocks.length bc2] 52)).heap.size from by
    have hz := HZ2.out
    have hs2 := hb2.size
    have hrbl : rb < W1.heap.size := by omega
    refine ⟨by rw [hm_start]; exact hsep.below blockK_sets hba, heap_alloc_new w2 _, (hba.block rb (by omega)).trans ((hb2.block rb hrbl).trans hz.2.1), (hz.1.trans (hb2.mono hz.1.size)).trans (hba.mono (hz.1.trans (hb2.mono hz.1.size)).size), ⟨hz.2.2.1, hz.2.2.2, hs2⟩, by rw [World.size_alloc]; omega⟩)
  clear hsep hb2 hba HCL u0 k0 k1 k2 HZ2
  go_upto_region 2 with fail
  obtain ⟨cb, hcb⟩ : ∃ n, n = w2.heap.size := ⟨_, rfl⟩
  generalize w2.alloc (.cells #[.int .i64 params, .int .i64 regs, .slice ba2 blocks.length bc2] 52) = W3 at HS3 ⊢
  rw [← hcb] at HS3 ⊢
  clear hcb
  have k2 := cell_of_row _ _ 2 _ _ _ HS3.out.2.1
  simp only [List.getElem?_toArray, List.getElem?_cons_zero, List.getElem?_cons_succ] at k2
  have hbl : blocks.length ≤ 1048576 := by have := HSZ.out; unfold szCodeD at this; have := szS_len szBlockD blocks; simp only at *; omega
  go_wp2_with fail
  clear k2
  go_loopg [18] blocks.length (fun G i wr => ∃ j : Nat, j + G = blocks.length ∧ i = .int .i64 j ∧ Hid (SepK 5 49 BlockK (fun k => W1.heap.size ≤ k ∧ k < cb) wr ba2 blocks.length bc2 (hm (dropBlock L) blocks j) ∧ wr.heap[cb]? = some (.cells #[.int .i64 params, .int .i64 regs, .slice ba2 blocks.length bc2] 52 (0, 0)) ∧ wr.heap[rb]? = some (.cells #[.int .i64 0, .int .i64 0, .slice none 0 0] 52 (0, 0)) ∧ Below w.heap.size w wr ∧ cb < wr.heap.size))
  case atStart => exact ⟨0, by omega, rfl, Lib.hid ⟨HS3.out.1, HS3.out.2.1, HS3.out.2.2.1, HS3.out.2.2.2.1, HS3.out.2.2.2.2.2⟩⟩
  case round =>
    obtain ⟨j, hj, rfl, HR⟩ := hrel
    obtain ⟨wo, rfl⟩ : ∃ wo, wo = wr := ⟨wr, rfl⟩
    by_cases hlt : j < blocks.length
    · have hlti : (j : Int) < (blocks.length : Int) := by omega
      rcases HR.out.1.case with ⟨-, h0, -⟩ | ⟨g, rfl⟩
      · omega
      obtain ⟨x, pre, d, post, F, hx, hdl, hrm, hRx, hF, hSg, hput⟩ := HR.out.1.at blockK_sets hlt
      rw [hm_get hlt] at hx
      obtain ⟨pa, pc, ia, ic, na, nc, S1, S2, S3, rfl, h1, h2, h3, d1, d2, d3⟩ := hRx
      have z0 : wo.cell? ⟨g, j * 5, none⟩ = some (.slice pa x.phis.length pc) := hrm.cell (q := 0) rfl
      have z1 : wo.cell? ⟨g, j * 5 + 1, none⟩ = some (.slice ia x.ins.length ic) := hrm.cell (q := 1) rfl
      have z2 : wo.cell? ⟨g, j * 5 + 2, none⟩ = some (.int .i64 x.jump) := hrm.cell (q := 2) rfl
      have z3 : wo.cell? ⟨g, j * 5 + 3, none⟩ = some (.int .i64 x.jon) := hrm.cell (q := 3) rfl
      have z4 : wo.cell? ⟨g, j * 5 + 4, none⟩ = some (.slice na x.nx.length nc) := hrm.cell (q := 4) rfl
      have hba : Below wo.heap.size wo (wo.alloc (.cells #[.slice pa x.phis.length pc, .slice ia x.ins.length ic, .int .i64 x.jump, .int .i64 x.jon, .slice na x.nx.length nc] 49)) := (Below.refl _ _).alloc (Nat.le_refl _) _
      have hxl : x.ins.length ≤ 1048576 := by
        have h9 := HSZ.out
        have h8 := szS_mem (sz := szBlockD) (List.mem_of_getElem? hx)
        have h7 := szS_len szInsD x.ins
        unfold szCodeD at h9
        unfold szBlockD at h8
        simp only at h9
        unfold szBlockD at h9
        omega
      have HB := Lib.hid (And.intro hx (And.intro hrm (And.intro hF (And.intro hSg (And.intro hput (And.intro h1 (And.intro h3 (And.intro d1 (And.intro d2 d3)))))))))
      have HI := Lib.hid (show SepK 4 45 InsK S2 (wo.alloc (.cells #[.slice pa x.phis.length pc, .slice ia x.ins.length ic, .int .i64 x.jump, .int .i64 x.jon, .slice na x.nx.length nc] 49)) ia x.ins.length ic (hm (dropIns L) x.ins 0) ∧ Turned S2 (wo.alloc (.cells #[.slice pa x.phis.length pc, .slice ia x.ins.length ic, .int .i64 x.jump, .int .i64 x.jon, .slice na x.nx.length nc] 49)) (wo.alloc (.cells #[.slice pa x.phis.length pc, .slice ia x.ins.length ic, .int .i64 x.jump, .int .i64 x.jon, .slice na x.nx.length nc] 49)) from ⟨by rw [hm_start]; exact h2.below insK_sets hba, Turned.refl _ _⟩)
      have HX := Lib.hid (show (wo.alloc (.cells #[.slice pa x.phis.length pc, .slice ia x.ins.length ic, .int .i64 x.jump, .int .i64 x.jon, .slice na x.nx.length nc] 49)).heap[wo.heap.size]? = some (.cells #[.slice pa x.phis.length pc, .slice ia x.ins.length ic, .int .i64 x.jump, .int .i64 x.jon, .slice na x.nx.length nc] 49 (0, 0)) ∧ Below wo.heap.size wo (wo.alloc (.cells #[.slice pa x.phis.length pc, .slice ia x.ins.length ic, .int .i64 x.jump, .int .i64 x.jon, .slice na x.nx.length nc] 49)) ∧ wo.heap.size < (wo.alloc (.cells #[.slice pa x.phis.length pc, .slice ia x.ins.length ic, .int .i64 x.jump, .int .i64 x.jon, .slice na x.nx.length nc] 49)).heap.size from ⟨heap_alloc_new wo _, hba, by rw [World.size_alloc]; omega⟩)
      clear hx hrm hF hSg hput h1 h2 h3 d1 d2 d3 hdl hba
      go_upto_region 5 with fail
      clear z0 z1 z2 z3 z4
      obtain ⟨xb, hxb⟩ : ∃ n, n = wo.heap.size := ⟨_, rfl⟩
      have HXB := Lib.hid hxb
      generalize wo.alloc (.cells #[.slice pa x.phis.length pc, .slice ia x.ins.length ic, .int .i64 x.jump, .int .i64 x.jon, .slice na x.nx.length nc] 49) = W5 at HI HX ⊢
      rw [← hxb]
      have HX2 := Lib.hid (show W5.heap[xb]? = some (.cells #[.slice pa x.phis.length pc, .slice ia x.ins.length ic, .int .i64 x.jump, .int .i64 x.jon, .slice na x.nx.length nc] 49 (0, 0)) from by rw [hxb]; exact HX.out.1)
      clear hxb
      have hS2 : ∀ k, S2 k → W1.heap.size ≤ k ∧ k < cb := fun k hk => (HB.out.2.2.1 k (HB.out.2.2.2.2.2.2.2.2.1 k hk).1).1
      have HS2 := Lib.hid hS2
      have x1 := cell_of_row _ _ 1 _ _ _ HX2.out
      simp only [List.getElem?_toArray, List.getElem?_cons_zero, List.getElem?_cons_succ] at x1
      clear hS2
      go_wp2_with fail
      clear x1
      go_loopg [25] x.ins.length (fun G i wr => ∃ i2 : Nat, i2 + G = x.ins.length ∧ i = .int .i64 i2 ∧ Hid (SepK 4 45 InsK S2 wr ia x.ins.length ic (hm (dropIns L) x.ins i2) ∧ Turned S2 W5 wr))
      case atStart => exact ⟨0, by omega, rfl, HI⟩
      case round =>
        obtain ⟨i2, hi2, rfl, HQ⟩ := hrel
        have HB2 := Lib.hid (show Below w.heap.size w wr ∧ wr.heap[cb]? = some (.cells #[.int .i64 params, .int .i64 regs, .slice (some ⟨g, 0, none⟩) blocks.length bc2] 52 (0, 0)) ∧ wr.heap[rb]? = some (.cells #[.int .i64 0, .int .i64 0, .slice none 0 0] 52 (0, 0)) ∧ cb < wr.heap.size ∧ wr.heap[xb]? = some (.cells #[.slice pa x.phis.length pc, .slice ia x.ins.length ic, .int .i64 x.jump, .int .i64 x.jon, .slice na x.nx.length nc] 49 (0, 0)) from by
          have hl := HS3.out.2.2.2.2.1
          have hb5 := HR.out.2.2.2.1.trans (HX.out.2.1.mono HR.out.2.2.2.1.size)
          have hcb := HR.out.2.2.2.2
          have hxb := HXB.out
          have hsz5 := HX.out.2.2
          have hrb : rb < wo.heap.size := (Array.getElem?_eq_some_iff.1 HR.out.2.2.1).1
          refine ⟨hb5.trans (HQ.out.2.below (B := w.heap.size) hb5.size (fun k hk => by have := HS2.out k hk; omega)), ?_, ?_, by have := HQ.out.2.size; omega, ?_⟩
          · exact (HQ.out.2.block cb (by omega) (fun h => by have := HS2.out cb h; omega)).trans ((HX.out.2.1.block cb (by omega)).trans HR.out.2.1)
          · exact (HQ.out.2.block rb (by omega) (fun h => by have := HS2.out rb h; omega)).trans ((HX.out.2.1.block rb hrb).trans HR.out.2.2.1)
          · exact (HQ.out.2.block xb (by omega) (fun h => by have := HS2.out xb h; omega)).trans HX2.out)
        by_cases hlt2 : i2 < x.ins.length
        · have hlti2 : (i2 : Int) < (x.ins.length : Int) := by omega
          rcases HQ.out.1.case with ⟨-, h0, -⟩ | ⟨g2, rfl⟩
          · omega
          obtain ⟨y, pre2, dd, post2, F2, hy, hdl2, hrm2, hRy, hF2, hSg2, hput2⟩ := HQ.out.1.at insK_sets hlt2
          rw [hm_get hlt2] at hy
          obtain ⟨aa, ac, rfl, ho⟩ := hRy
          have o0 : wr.cell? ⟨g2, i2 * 4, none⟩ = some (.int .i64 y.op) := hrm2.cell (q := 0) rfl
          have o3 : wr.cell? ⟨g2, i2 * 4 + 3, none⟩ = some (.int .i64 y.num) := hrm2.cell (q := 3) rfl
          have x1 := cell_of_row _ _ 1 _ _ _ HB2.out.2.2.2.2
          simp only [List.getElem?_toArray, List.getElem?_cons_zero, List.getElem?_cons_succ] at x1
          by_cases hop : y.op = 14
          · have hopd : (y.op == 14) = true := by rw [hop]; rfl
            have hT0 : Turned (fun _ => False) wr wr.drew := ⟨rfl, rfl, rfl, Nat.le_refl _, fun _ _ _ => rfl⟩
            have HFIN := Lib.hid (show SepK 4 45 InsK S2 (wr.drew.setCell ⟨g2, i2 * 4 + 3, none⟩ (.int .i64 (idxInt y.num L))) (some ⟨g2, 0, none⟩) x.ins.length ic (hm (dropIns L) x.ins (i2 + 1)) ∧ Turned S2 W5 (wr.drew.setCell ⟨g2, i2 * 4 + 3, none⟩ (.int .i64 (idxInt y.num L))) from by
              have hst := turned_store wr.drew g2 (i2 * 4 + 3) (.int .i64 (idxInt y.num L))
              have hst2 : Turned (fun k => k = g2) wr (wr.drew.setCell ⟨g2, i2 * 4 + 3, none⟩ (.int .i64 (idxInt y.num L))) := ⟨hst.os, hst.tape, hst.output, hst.size, hst.block⟩
              refine ⟨?_, HQ.out.2.trans (hst2.mono (fun k hk => by have hk : k = g2 := hk; rw [hk]; exact hSg2))⟩
              rw [← hm_set hy]
              have hde : dropIns L y = ⟨y.op, y.to, y.args, idxInt y.num L⟩ := by unfold dropIns; rw [if_pos hop]
              rw [hde]
              refine hput2 _ _ _ (hst2.mono (fun k hk => .inl hk)) ((hrm2.turned hT0 (fun h => h)).put (q := 3) (by simp) (.int .i64 (idxInt y.num L))) (by simp) ⟨aa, ac, rfl, ?_⟩
              exact ho.turned hst2 (fun k _ h1 h2 => (hF2 k h1).2 h2))
            have HKP := Lib.hid (show wr.drew.cell? ⟨xb, 1, none⟩ = some (.slice (some ⟨g2, 0, none⟩) x.ins.length ic) ∧ wr.drew.cell? ⟨lp, 0, none⟩ = some (.slice la L.length lc) ∧ wr.drew.cell? ⟨g2, i2 * 4 + 3, none⟩ = some (.int .i64 y.num) from
              ⟨x1, cell_later HB2.out.1.drew (cell_of_row _ _ 0 _ _ _ HLR.out.2.1), o3⟩)
            have HFZ := Lib.hid (show wr.drew.frozen? ⟨g2, i2 * 4 + 3, none⟩ = false from hrm2.frozen 3)
            have HIX := Lib.hid (index_any la L.length lc L y.num wr.drew (HLR.out.1.later HB2.out.1.drew) (by have := HLR.out.2.2; omega))
            clear hput2 hrm2 ho hF2 hSg2 hdl2 hy hT0
            go_upto_region 9 with fail
            clear o0 o3 x1 hop hopd
            refine wp_region_L (S := (fun W => W.cell? ⟨xb, 1, none⟩ = some (.slice (some ⟨g2, 0, none⟩) x.ins.length ic) ∧ W.cell? ⟨lp, 0, none⟩ = some (.slice la L.length lc) ∧ W.cell? ⟨g2, i2 * 4 + 3, none⟩ = some (.int .i64 y.num))) (by kernel_rfl) ?_
            have hHeld := HKP.out
            generalize wr.drew = w7 at HKP HIX HFZ HFIN hHeld ⊢
            refine wpAnyL_take 1 (i := 0) (oi := ⟨some 35, _, _, _, _, _⟩) (v := ?_) rfl (by kernel_rfl) (by kernel_rfl) (by kernel_rfl) (by kernel_rfl) (fun _ _ _ h => h) (Or.inl ⟨by rfl, ?_⟩) hHeld ?_
            rotate_left
            · (intro w hSw; (try dsimp only at hSw); go_simp; all_goals (try with_reducible rfl))
            (try simp only [Act.put, List.setIfInBounds_toArray, List.set_cons_zero, List.set_cons_succ])
            refine wpAnyL_take 11 (i := 1) (oi := ⟨some 36, _, _, _, _, _⟩) (v := ?_) rfl (by kernel_rfl) (by kernel_rfl) (by kernel_rfl) (by kernel_rfl) (fun _ _ _ h => h) (Or.inl ⟨by rfl, ?_⟩) hHeld ?_
            rotate_left
            · (intro w hSw; (try dsimp only at hSw); go_simp; all_goals (try with_reducible rfl))
            (try simp only [Act.put, List.setIfInBounds_toArray, List.set_cons_zero, List.set_cons_succ])
            refine wpAnyL_take 11 (i := 2) (oi := ⟨some 37, _, _, _, _, _⟩) (v := ?_) rfl (by kernel_rfl) (by kernel_rfl) (by kernel_rfl) (by kernel_rfl) (fun _ _ _ h => h) (Or.inl ⟨by rfl, ?_⟩) hHeld ?_
            rotate_left
            · (intro w hSw; (try dsimp only at hSw); go_simp; all_goals (try with_reducible rfl))
            (try simp only [Act.put, List.setIfInBounds_toArray, List.set_cons_zero, List.set_cons_succ])
            refine wpAnyL_take 10 (i := 3) (oi := ⟨some 38, _, _, _, _, _⟩) (v := ?_) rfl (by kernel_rfl) (by kernel_rfl) (by kernel_rfl) (by kernel_rfl) (fun _ _ _ h => h) (Or.inl ⟨by rfl, ?_⟩) hHeld ?_
            rotate_left
            · (intro w hSw; (try dsimp only at hSw); go_simp; all_goals (try with_reducible rfl))
            (try simp only [Act.put, List.setIfInBounds_toArray, List.set_cons_zero, List.set_cons_succ])
            refine wpAnyL_take 5 (i := 4) (oi := ⟨some 39, _, _, _, _, _⟩) (v := ?_) rfl (by kernel_rfl) (by kernel_rfl) (by kernel_rfl) (by kernel_rfl) (fun _ _ _ h => h) (Or.inl ⟨by rfl, ?_⟩) hHeld ?_
            rotate_left
            · (intro w hSw; (try dsimp only at hSw); go_simp; all_goals (try with_reducible rfl))
            (try simp only [Act.put, List.setIfInBounds_toArray, List.set_cons_zero, List.set_cons_succ])
            refine wpAnyL_take 7 (i := 5) (oi := ⟨some 40, _, _, _, _, _⟩) (v := ?_) rfl (by kernel_rfl) (by kernel_rfl) (by kernel_rfl) (by kernel_rfl) (fun _ _ _ h => h) (Or.inl ⟨by rfl, ?_⟩) hHeld ?_
            rotate_left
            · (intro w hSw; (try dsimp only at hSw); go_simp; all_goals (try with_reducible rfl))
            (try simp only [Act.put, List.setIfInBounds_toArray, List.set_cons_zero, List.set_cons_succ])
            refine wpAnyL_take 7 (i := 6) (oi := ⟨some 41, _, _, _, _, _⟩) (v := ?_) rfl (by kernel_rfl) (by kernel_rfl) (by kernel_rfl) (by kernel_rfl) (fun _ _ _ h => h) (Or.inl ⟨by rfl, ?_⟩) hHeld ?_
            rotate_left
            · (intro w hSw; (try dsimp only at hSw); go_simp; all_goals (try with_reducible rfl))
            (try simp only [Act.put, List.setIfInBounds_toArray, List.set_cons_zero, List.set_cons_succ])
            refine wpAnyL_take 8 (i := 7) (oi := ⟨some 42, _, _, _, _, _⟩) (v := ?_) rfl (by kernel_rfl) (by kernel_rfl) (by kernel_rfl) (by kernel_rfl) (fun _ _ _ h => h) (Or.inl ⟨by rfl, ?_⟩) hHeld ?_
            rotate_left
            · (intro w hSw; (try dsimp only at hSw); go_simp; all_goals (try with_reducible rfl))
            (try simp only [Act.put, List.setIfInBounds_toArray, List.set_cons_zero, List.set_cons_succ])
            refine wpAnyL_take 9 (i := 8) (oi := ⟨some 43, _, _, _, _, _⟩) (v := ?_) rfl (by kernel_rfl) (by kernel_rfl) (by kernel_rfl) (by kernel_rfl) (fun _ _ _ h => h) (Or.inl ⟨by rfl, ?_⟩) hHeld ?_
            rotate_left
            · (intro w hSw; (try dsimp only at hSw); go_simp; all_goals (try with_reducible rfl))
            (try simp only [Act.put, List.setIfInBounds_toArray, List.set_cons_zero, List.set_cons_succ])
            refine wpAnyL_take 10 (i := 9) (oi := ⟨some 44, _, _, _, _, _⟩) (v := ?_) rfl (by kernel_rfl) (by kernel_rfl) (by kernel_rfl) (by kernel_rfl) (fun _ _ _ h => h) (Or.inl ⟨by rfl, ?_⟩) hHeld ?_
            rotate_left
            · (intro w hSw; (try dsimp only at hSw); go_simp; all_goals (try with_reducible rfl))
            (try simp only [Act.put, List.setIfInBounds_toArray, List.set_cons_zero, List.set_cons_succ])
            refine wpAnyL_ready (rs := [10]) (by kernel_rfl) (by simp) ?_
            refine AllReadyL.cons (o := ⟨some 45, _, _, _, _, _⟩) rfl (fun K hK => ?_) AllReadyL.nil
            go_simp
            go_at_call 31
            refine HIX.out.mono ?_
            rintro e w8 ⟨rfl, rfl⟩
            have hHeld2 := HKP.out
            refine hK.out _ _ (fun _ => hHeld2) ?_
            clear hK K hHeld
            have hHeld := hHeld2
            clear hHeld2
            (try simp only [Act.put, List.setIfInBounds_toArray, List.set_cons_zero, List.set_cons_succ])
            refine wpAnyL_take 12 (i := 11) (oi := ⟨some 46, _, _, _, _, _⟩) (v := ?_) rfl (by kernel_rfl) (by kernel_rfl) (by kernel_rfl) (by kernel_rfl) (fun _ _ _ h => h) (Or.inl ⟨by rfl, ?_⟩) hHeld ?_
            rotate_left
            · (intro w hSw; (try dsimp only at hSw); go_simp; all_goals (try with_reducible rfl))
            (try simp only [Act.put, List.setIfInBounds_toArray, List.set_cons_zero, List.set_cons_succ])
            refine wpAnyL_take 13 (i := 12) (oi := ⟨some 47, _, _, _, _, _⟩) (v := ?_) rfl (by kernel_rfl) (by kernel_rfl) (by kernel_rfl) (by kernel_rfl) (fun _ _ _ h => h) (Or.inl ⟨by rfl, ?_⟩) hHeld ?_
            rotate_left
            · (intro w hSw; (try dsimp only at hSw); go_simp; all_goals (try with_reducible rfl))
            (try simp only [Act.put, List.setIfInBounds_toArray, List.set_cons_zero, List.set_cons_succ])
            refine wpAnyL_ready (rs := [13]) (by kernel_rfl) (by simp) ?_
            refine AllReadyL.cons (o := ⟨none, _, _, _, _, _⟩) rfl (fun K hK => ?_) AllReadyL.nil
            have y3 := HFZ.out
            have r3 := HKP.out.2.2
            go_simp
            clear y3 r3
            refine hK.out _ _ (lastL (by kernel_rfl)) ?_
            clear hK K hHeld
            (try simp only [Act.put, List.setIfInBounds_toArray, List.set_cons_zero, List.set_cons_succ])
            refine wpAnyL_done (by kernel_rfl) ?_ _
            go_wp2
            go_roundg (gk - 1)
            case measure => omega
            case rel => exact ⟨i2 + 1, by omega, by go_num, HFIN⟩
          · have hopd : (y.op == 14) = false := by simpa using hop
            have HFIN := Lib.hid (show SepK 4 45 InsK S2 wr (some ⟨g2, 0, none⟩) x.ins.length ic (hm (dropIns L) x.ins (i2 + 1)) ∧ Turned S2 W5 wr from by
              rw [hm_same hy (by unfold dropIns; rw [if_neg hop])]
              exact HQ.out)
            clear hput2 hrm2 ho hF2 hSg2 hdl2 hy hop
            go_wp2
            go_roundg (gk - 1)
            case measure => omega
            case rel => exact ⟨i2 + 1, by omega, by go_num, HFIN⟩
        · obtain rfl : i2 = x.ins.length := by omega
          have HFIN := Lib.hid (show SepK 5 49 BlockK (fun k => W1.heap.size ≤ k ∧ k < cb) wr (some ⟨g, 0, none⟩) blocks.length bc2 (hm (dropBlock L) blocks (j + 1)) from by
            obtain ⟨hx, hrm, hF, hSg, hput, h1, h3, d1, d2, d3⟩ := HB.out
            have hTw : Turned (fun _ => False) wo W5 := turned_of_below HX.out.2.1 (fun k hk h => by omega)
            have hT : Turned (fun k => k = g ∨ F k) wo wr := (hTw.mono (fun k hk => hk.elim)).trans (HQ.out.2.mono (fun k hk => .inr (d2 k hk).1))
            have hins := HQ.out.1
            rw [hm_end rfl] at hins
            rw [← hm_set hx]
            refine hput _ _ _ hT ((hrm.turned hTw (fun h => h)).turned HQ.out.2 (fun h => (hF g (d2 g h).1).2 rfl)) rfl ⟨pa, pc, ia, ic, na, nc, S1, S2, S3, by simp [dropBlock], (h1.turned phiK_sets hTw (fun _ _ _ h => h)).turned phiK_sets HQ.out.2 (fun k _ h => (d1 k h).2.1), by simpa [dropBlock] using hins, (h3.turned hTw (fun _ _ _ h => h)).turned HQ.out.2 (fun k _ h => (d3 k h).2.2), d1, d2, d3⟩)
          go_wp2
          go_roundg (blocks.length - (j + 1))
          case measure => omega
          case rel => exact ⟨j + 1, by omega, by go_num, Lib.hid ⟨HFIN.out, HB2.out.2.1, HB2.out.2.2.1, HB2.out.1, HB2.out.2.2.2.1⟩⟩
    · obtain rfl : j = blocks.length := by omega
      have hsep := HR.out.1
      rw [hm_end rfl] at hsep
      have HFIN := Lib.hid (show Below w.heap.size w (wo.setCells rb 0 [.int .i64 params, .int .i64 regs, .slice ba2 blocks.length bc2]) ∧ (wo.setCells rb 0 [.int .i64 params, .int .i64 regs, .slice ba2 blocks.length bc2]).heap[rb]? = some (.cells (List.toArray [.int .i64 params, .int .i64 regs, .slice ba2 blocks.length bc2]) 52 (0, 0)) ∧ CodeK (fun k => w.heap.size ≤ k) (wo.setCells rb 0 [.int .i64 params, .int .i64 regs, .slice ba2 blocks.length bc2]) [.int .i64 params, .int .i64 regs, .slice ba2 blocks.length bc2] (dropCode L ⟨params, regs, blocks⟩) from by
        have ht := turned_setCells (g := rb) [.int .i64 params, .int .i64 regs, .slice ba2 blocks.length bc2] wo 0
        have hl := HS3.out.2.2.2.2.1
        refine ⟨HR.out.2.2.2.1.trans (ht.below (B := w.heap.size) HR.out.2.2.2.1.size (fun k hk => by have hk : k = rb := hk; omega)), ?_, ba2, bc2, by simp [dropCode], ?_⟩
        · have := heap_setCells_mid (w := wo) (A := []) (B := [.int .i64 0, .int .i64 0, .slice none 0 0]) (C := []) (vs := [.int .i64 params, .int .i64 regs, .slice ba2 blocks.length bc2]) (o := 0) rfl (by simp) (by simpa using HR.out.2.2.1)
          simpa using this
        · have h9 := (hsep.turned blockK_sets ht (fun k _ h1 h2 => by have h2 : k = rb := h2; omega)).mono (S' := fun k => w.heap.size ≤ k) (fun k h => by show w.heap.size ≤ k; omega)
          simpa [dropCode] using h9)
      have p0 := cell_of_row _ _ 0 _ _ _ HR.out.2.1
      have p1 := cell_of_row _ _ 1 _ _ _ HR.out.2.1
      have p2 := cell_of_row _ _ 2 _ _ _ HR.out.2.1
      have r0 := cell_of_row _ _ 0 _ _ _ HR.out.2.2.1
      have r1 := cell_of_row _ _ 1 _ _ _ HR.out.2.2.1
      have r2 := cell_of_row _ _ 2 _ _ _ HR.out.2.2.1
      have y0 := frozen_of_row _ _ 0 _ _ HR.out.2.2.1
      have y1 := frozen_of_row _ _ 1 _ _ HR.out.2.2.1
      have y2 := frozen_of_row _ _ 2 _ _ HR.out.2.2.1
      simp only [List.getElem?_toArray, List.getElem?_cons_zero, List.getElem?_cons_succ] at p0 p1 p2 r0 r1 r2
      clear hsep
      go_wp2
      refine bodyPost_ret (results_cell_row rfl _ _ rb 52 (List.toArray [.int .i64 params, .int .i64 regs, .slice ba2 blocks.length bc2]) (0, 0) _ rfl ?_ Tryz.underlying52 rfl (by kernel_rfl)) rfl ?_
      · exact HFIN.out.2.1
      exact ⟨_, rfl, HFIN.out.2.2, HFIN.out.1⟩

end Go.Proofs.YtonlidgmfmgcmaaGreat

namespace Go.Proofs.YtonlidgmfmgcmaaGreat
open Go.RowKit
set_option linter.unusedVariables false

theorem results_cellR {P : Program} {fn : Func} {p u : Tmp} {ty : TypeId} (h : fn.results = #[.cell p ty, .tmp u]) (tmps : Array Value) (w : World) (g : Nat) (t : TypeId) (cs : Array Value) (fr : Nat × Nat) (d : TypeDesc)
    (hp : tmps.getD p undef = .pointer (some ⟨g, 0, none⟩)) (hg : w.heap[g]? = some (.cells cs t fr))
    (hu : P.underlying ty = some d) (hd : (match d with | .struct _ | .array _ _ => true | _ => false) = true) (hi : (P.info? ty).map (·.size) = some cs.size) :
    (results fn tmps).run P w = .ok (.tuple #[.agg cs, tmps.getD u undef]) w := by
  rw [results_cell_tmp h, hp]
  simp [asAddr, run_loadVar_row w g t ty cs fr d hg hu hd hi]

theorem dropP_bad {us : List CodeD} (h : unitB us = false) : dropP us = [] := by
  unfold dropP cnP
  rw [h]; rfl
set_option maxRecDepth 100000 in
set_option maxHeartbeats 4000000 in
theorem implDropCodes_any (us : List CodeD) (ua : Option Addr) (uc : Nat) (hsz : szS szCodeD us ≤ 1048576) (w : World) (hU : SliceRd 3 CodeR w ua us.length us) :
    Calls Tryz.prog 15 #[.agg #[.slice ua us.length uc]] w fun e w' => ∃ (a : Option Addr) (c : Nat), e = .returned (.tuple #[.agg (List.toArray [.slice a (dropP us).length c]), .bool (unitB us)]) ∧ SepK 3 52 CodeK (fun k => w.heap.size ≤ k) w' a (dropP us).length c (dropP us) ∧ Below w.heap.size w w' := by
  have hmf : ∀ (fn : Fn) (first cap : Array Value) (w : World), (Instr.makeFunc fn first cap).run Tryz.prog w = .ok (.func fn first cap) w := fun _ _ _ _ => rfl
  have H2 := Lib.hid (two_rows w (.cells #[.slice ua us.length uc] 30) (.cells #[.slice none 0 0] 30))
  have HU := Lib.hid (And.intro hU hsz)
  obtain ⟨R, hR⟩ : ∃ R, R = dropP us := ⟨_, rfl⟩
  obtain ⟨B, hB⟩ : ∃ B, B = unitB us := ⟨_, rfl⟩
  rw [← hR, ← hB]
  have HRB := Lib.hid (And.intro hR hB)
  clear hU hsz hR hB
  go_enter Tryz.func15, Tryz.ntmps15
  go_upto_region 1 with fail
  obtain ⟨pb, hpb⟩ : ∃ n, n = w.heap.size := ⟨_, rfl⟩
  obtain ⟨rb, hrb⟩ : ∃ n, n = w.heap.size + 1 := ⟨_, rfl⟩
  generalize (w.alloc (.cells #[.slice ua us.length uc] 30)).alloc (.cells #[.slice none 0 0] 30) = W1 at H2 ⊢
  have HR1 := Lib.hid (show Below w.heap.size w W1 ∧ W1.heap[pb]? = some (.cells #[.slice ua us.length uc] 30 (0, 0)) ∧ W1.heap[rb]? = some (.cells #[.slice none 0 0] 30 (0, 0)) ∧ pb = w.heap.size ∧ rb = w.heap.size + 1 ∧ W1.heap.size = w.heap.size + 2 from by rw [hpb, hrb]; exact ⟨H2.out.2.2.2, H2.out.1, H2.out.2.1, rfl, rfl, H2.out.2.2.1⟩)
  rw [← hrb, ← hpb]
  clear hpb hrb H2
  have k0 := cell_of_row _ _ 0 _ _ _ HR1.out.2.1
  simp only [List.getElem?_toArray, List.getElem?_cons_zero] at k0
  have HV := Lib.hid (implUnitValid_any us ua uc HU.out.2 W1 (HU.out.1.later codeR_lasts HR1.out.1))
  go_wp2_with fail
  refine HV.out.mono ?_
  rw [← HRB.out.2]
  clear k0
  rintro e w1 ⟨rfl, hb1⟩
  have HW := Lib.hid (show Below w.heap.size w w1 ∧ w1.heap[pb]? = some (.cells #[.slice ua us.length uc] 30 (0, 0)) ∧ w1.heap[rb]? = some (.cells #[.slice none 0 0] 30 (0, 0)) ∧ W1.heap.size ≤ w1.heap.size from
    ⟨HR1.out.1.trans (hb1.mono HR1.out.1.size), (hb1.block pb (by have := HR1.out; omega)).trans HR1.out.2.1, (hb1.block rb (by have := HR1.out; omega)).trans HR1.out.2.2.1, hb1.size⟩)
  clear hb1 HV
  cases hv : B with
  | false =>
    have HE := Lib.hid (show R = [] from by rw [HRB.out.1]; exact dropP_bad (by rw [← HRB.out.2]; exact hv))
    have HBV := Lib.hid hv
    clear hv
    have r0 := cell_of_row _ _ 0 _ _ _ HW.out.2.2.1
    have y0 := frozen_of_row _ _ 0 _ _ HW.out.2.2.1
    simp only [List.getElem?_toArray, List.getElem?_cons_zero] at r0
    go_wp2
    refine bodyPost_ret (results_cellR rfl _ _ rb 30 (List.toArray [.slice none 0 0]) (0, 0) _ rfl ?_ Tryz.underlying30 rfl (by kernel_rfl)) rfl ?_
    · exact (heap_setCell_same w1 rb 0 _ _ _ HW.out.2.2.1).trans rfl
    rw [HE.out, HBV.out]
    exact ⟨none, 0, rfl, SepK.nil, HW.out.1.setCell (by have := HR1.out; show w.heap.size ≤ rb; omega) _⟩
  | true =>
    have hu : unitB us = true := by rw [← HRB.out.2]; exact hv
    have hNp : 0 < us.length := by
      have h1 := hu
      rw [unitB, Bool.and_eq_true, Bool.and_eq_true, limB, Bool.and_eq_true] at h1
      have := of_decide_eq_true h1.1.1.1
      omega
    have HCN := Lib.hid (codesNeeded_any us hu hNp HU.out.2 ua uc w1 (HU.out.1.later codeR_lasts HW.out.1))
    have HLN := Lib.hid (show (cnP us).length ≤ 1048576 from Nat.le_trans (cnP_len us) (Nat.le_trans (szS_len szCodeD us) HU.out.2))
    have HRL := Lib.hid (show R = (cnP us).map (dropAt us (cnP us)) from HRB.out.1)
    have k0 := cell_of_row _ _ 0 _ _ _ HW.out.2.1
    simp only [List.getElem?_toArray, List.getElem?_cons_zero] at k0
    have HBV := Lib.hid hv
    clear hu hNp hv
    go_wp2_with fail
    refine HCN.out.mono ?_
    rintro e w2 ⟨a2, c2, rfl, hown2, hb2⟩
    clear k0 HCN
    have HMEM := Lib.hid (fun k (h : k ∈ cnP us) => cnP_at h)
    obtain ⟨L, hL⟩ : ∃ L, L = cnP us := ⟨_, rfl⟩
    rw [← hL] at hown2 HLN HRL HMEM ⊢
    clear hL
    have hba : Below w2.heap.size w2 (w2.alloc (.cells #[.slice a2 L.length c2] 26)) := (Below.refl _ _).alloc (Nat.le_refl _) _
    have HW3 := Lib.hid (show Below w.heap.size w (w2.alloc (.cells #[.slice a2 L.length c2] 26)) ∧ (w2.alloc (.cells #[.slice a2 L.length c2] 26)).heap[pb]? = some (.cells #[.slice ua us.length uc] 30 (0, 0)) ∧ (w2.alloc (.cells #[.slice a2 L.length c2] 26)).heap[rb]? = some (.cells #[.slice none 0 0] 30 (0, 0)) ∧ (w2.alloc (.cells #[.slice a2 L.length c2] 26)).heap[w2.heap.size]? = some (.cells #[.slice a2 L.length c2] 26 (0, 0)) ∧ IntsRd (w2.alloc (.cells #[.slice a2 L.length c2] 26)) a2 L.length L ∧ rb < (w2.alloc (.cells #[.slice a2 L.length c2] 26)).heap.size from by
      have hp : pb < w1.heap.size := (Array.getElem?_eq_some_iff.1 HW.out.2.1).1
      have hr : rb < w1.heap.size := (Array.getElem?_eq_some_iff.1 HW.out.2.2.1).1
      have hs2 := hb2.size
      have h12 := HW.out.1.trans (hb2.mono HW.out.1.size)
      exact ⟨h12.trans (hba.mono h12.size), (hba.block pb (by omega)).trans ((hb2.block pb hp).trans HW.out.2.1), (hba.block rb (by omega)).trans ((hb2.block rb hr).trans HW.out.2.2.1), heap_alloc_new w2 _, ((ints_of_own hown2).toIntsRd).later hba, by rw [World.size_alloc]; omega⟩)
    clear hown2 hb2 hba
    go_upto_region 4 with fail
    obtain ⟨lb, hlb⟩ : ∃ n, n = w2.heap.size := ⟨_, rfl⟩
    generalize w2.alloc (.cells #[.slice a2 L.length c2] 26) = w3 at HW3 ⊢
    rw [← hlb] at HW3 ⊢
    clear hlb
    have l0 := cell_of_row _ _ 0 _ _ _ HW3.out.2.2.2.1
    simp only [List.getElem?_toArray, List.getElem?_cons_zero] at l0
    have HMP := Lib.hid (mappedCode_any 29 #[.pointer (some ⟨pb, 0, none⟩), .pointer (some ⟨lb, 0, none⟩)] (dropAt us L) a2 c2 L w3 HW3.out.2.2.2.2.1 HLN.out (fun _ _ => rfl) (fun z hz W hb => by
      obtain ⟨m, c, rfl, hm, hc⟩ := HMEM.out z hz
      rw [dropAt_of hc]
      exact dropCode_any us ua uc HU.out.2 L a2 c2 HLN.out pb lb m c hc W (HU.out.1.later codeR_lasts (HW3.out.1.trans (hb.mono HW3.out.1.size))) (HW3.out.2.2.2.2.1.later hb) ((hb.block pb (Array.getElem?_eq_some_iff.1 HW3.out.2.1).1).trans HW3.out.2.1) ((hb.block lb (Array.getElem?_eq_some_iff.1 HW3.out.2.2.2.1).1).trans HW3.out.2.2.2.1)))
    go_wp2_with fail
    refine HMP.out.mono ?_
    rintro e w4 ⟨a4, c4, rfl, hs4, hb4⟩
    have HF := Lib.hid (And.intro hs4 hb4)
    have HRB4 := Lib.hid (show w4.heap[rb]? = some (.cells #[.slice none 0 0] 30 (0, 0)) from (hb4.block rb HW3.out.2.2.2.2.2).trans HW3.out.2.2.1)
    clear hs4 hb4 l0 HMP
    have r0 := cell_of_row _ _ 0 _ _ _ HRB4.out
    have y0 := frozen_of_row _ _ 0 _ _ HRB4.out
    simp only [List.getElem?_toArray, List.getElem?_cons_zero] at r0
    go_wp2
    refine bodyPost_ret (results_cellR rfl _ _ rb 30 (List.toArray [.slice a4 L.length c4]) (0, 0) _ rfl ?_ Tryz.underlying30 rfl (by kernel_rfl)) rfl ?_
    · exact (heap_setCell_same w4 rb 0 _ _ _ HRB4.out).trans rfl
    have hlen : R.length = L.length := by rw [HRL.out, List.length_map]
    rw [hlen, HBV.out]
    refine ⟨a4, c4, rfl, ?_, (HW3.out.1.trans (HF.out.2.mono HW3.out.1.size)).setCell (by have := HR1.out; show w.heap.size ≤ rb; omega) _⟩
    rw [HRL.out]
    have hts := turned_store w4 rb 0 (.slice a4 L.length c4)
    exact (HF.out.1.turned codeK_sets hts (fun k _ h1 h2 => by have h1 : w3.heap.size ≤ k := h1; have h2 : k = rb := h2; have := HW3.out.2.2.2.2.2; omega)).mono (fun k h => by have h : w3.heap.size ≤ k := h; have := HW3.out.1.size; show w.heap.size ≤ k; omega)

end Go.Proofs.YtonlidgmfmgcmaaGreat
