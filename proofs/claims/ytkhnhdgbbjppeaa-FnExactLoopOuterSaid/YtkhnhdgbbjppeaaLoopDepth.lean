
/-
  LoopDepth, the reference's and the program's.
-/
import Derived.Test.YtkhnhdgbbjppeaaLoopBody
import Derived.Test.YtkhnhdgbbjppeaaReachedIn
import Derived.Deep.RegionHeld3
import Derived.IntWalk
namespace Go.Proofs.Ytkhnhdgbbjppeaa
open Go.RowKit

/-- In how many of the first k loops b is. -/
noncomputable def dcnt (g : List (List Int)) (b : Int) : Nat → Nat
  | 0 => 0
  | k + 1 => dcnt g b k + (if b ∈ loopP g ((headsP g).getD k 0) then 1 else 0)
theorem dcnt_yes {g : List (List Int)} {b x : Int} {k : Nat} (hx : (headsP g)[k]? = some x) (h : b ∈ loopP g x) : dcnt g b (k + 1) = dcnt g b k + 1 := by
  rw [dcnt, List.getD_eq_getElem?_getD, hx]; simp [h]
theorem dcnt_no {g : List (List Int)} {b x : Int} {k : Nat} (hx : (headsP g)[k]? = some x) (h : ¬ b ∈ loopP g x) : dcnt g b (k + 1) = dcnt g b k := by
  rw [dcnt, List.getD_eq_getElem?_getD, hx]; simp [h]
theorem dcnt_le (g : List (List Int)) (b : Int) : ∀ k, dcnt g b k ≤ k
  | 0 => Nat.le_refl _
  | k + 1 => by
    have := dcnt_le g b k
    rw [dcnt]; split <;> omega
noncomputable def depthL (g : List (List Int)) (b : Int) : Int := if b ∈ reachedP g then (dcnt g b (headsP g).length : Int) else -1

set_option linter.unusedSimpArgs false in
set_option maxRecDepth 100000 in
set_option maxHeartbeats 2000000 in
theorem specLoopDepth_any (p r : Int) (ba : Option Addr) (bc : Nat) (g : List (List Int)) (b : Int) (w : World) (hg : Gr w ba g) :
    Calls Try.prog 49 #[.agg #[.int .i64 p, .int .i64 r, .slice ba g.length bc], .int .i64 b] w fun e w' => e = .returned (.int .i64 (depthL g b)) ∧ Below w.heap.size w w' := by
  have hb0 := below_box w (.int .i64 p) (.int .i64 r) (.slice ba g.length bc)
  have HC := Lib.hid (heap_alloc_new w (.cells #[.int .i64 p, .int .i64 r, .slice ba g.length bc] 51))
  have hlen := hg.len
  have hrl := reachedP_le hg
  have hhl := headsP_le hg
  go_enter Try.func49, Try.ntmps49
  go_wp2_with fail
  refine (specReachedIn_any p r ba bc g _ (hg.later hb0)).mono ?_
  rintro e w1 ⟨a1, c1, rfl, hrd1, hb1⟩
  have HO := Lib.hid (And.intro hrd1 (And.intro (hb0.trans (hb1.mono hb0.size)) ((hb1.block w.heap.size (by simp)).trans HC.out)))
  clear hrd1 hb1 hb0 HC
  go_wp2_with fail
  refine (l10At_any a1 _ c1 (reachedP g) b w1 HO.out.1 (by omega)).mono ?_
  rintro e w2 ⟨rfl, rfl⟩
  have HIN := Lib.hid (idxInt_nonneg (x := b) (reachedP g))
  generalize hix : idxInt b (reachedP g) = ix at HIN ⊢
  clear hix
  by_cases hm : b ∈ reachedP g
  · have hi0 : 0 ≤ ix := by have := HIN.out; rw [decide_eq_true hm] at this; exact of_decide_eq_true this
    have hi1 : ¬ ix < 0 := by omega
    have HP := Lib.hid (show depthL g b = (dcnt g b (headsP g).length : Int) by rw [depthL, if_pos hm])
    have k0 := cell_of_row _ _ 0 _ _ _ HO.out.2.2
    have k1 := cell_of_row _ _ 1 _ _ _ HO.out.2.2
    have k2 := cell_of_row _ _ 2 _ _ _ HO.out.2.2
    simp only [List.getElem?_toArray, List.getElem?_cons_zero, List.getElem?_cons_succ] at k0 k1 k2
    clear hm HIN
    go_wp2_with fail
    refine (specLoopHeads_any p r ba bc g _ (hg.later HO.out.2.1)).mono ?_
    rintro e w3 ⟨a3, c3, rfl, hrd3, hb3⟩
    have HO3 := Lib.hid (And.intro hrd3 (And.intro (HO.out.2.1.trans (hb3.mono HO.out.2.1.size)) ((hb3.block w.heap.size (Array.getElem?_eq_some_iff.1 HO.out.2.2).1).trans HO.out.2.2)))
    clear hrd3 hb3 HO k0 k1 k2
    go_wp2_with fail
    go_loopg [5, 7] (headsP g).length (fun F n i wr => ∃ k : Nat, k + F = (headsP g).length ∧ i = .int .i64 k ∧ n = .int .i64 (dcnt g b k : Nat) ∧ Hid (Below w3.heap.size w3 wr))
    case atStart => exact ⟨0, by omega, rfl, rfl, Lib.hid (Below.refl _ _)⟩
    case round =>
      obtain ⟨k, hk, rfl, rfl, HK⟩ := hrel
      by_cases hlt : k < (headsP g).length
      · obtain ⟨hb, ho, x, rfl, hx, hcx⟩ := (HO3.out.1.later HK.out).place hlt
        have hblk := (HK.out.block _ (Array.getElem?_eq_some_iff.1 HO3.out.2.2).1).trans HO3.out.2.2
        have k0 : wr.cell? ⟨w.heap.size, 0, none⟩ = some (.int .i64 p) := cell_of_row _ _ 0 _ _ _ hblk
        have k1 : wr.cell? ⟨w.heap.size, 1, none⟩ = some (.int .i64 r) := cell_of_row _ _ 1 _ _ _ hblk
        have k2 : wr.cell? ⟨w.heap.size, 2, none⟩ = some (.slice ba g.length bc) := cell_of_row _ _ 2 _ _ _ hblk
        have HGW := Lib.hid (hg.later (HO3.out.2.1.trans (HK.out.mono HO3.out.2.1.size)))
        have hki : (k : Int) < ((headsP g).length : Int) := by omega
        have hdl := dcnt_le g b k
        have HX := Lib.hid hx
        clear hblk hx
        go_wp2_with fail
        have hw1 : IntKind.i64.wrap (((dcnt g b k : Nat) : Int) + 1) = ((dcnt g b k : Nat) : Int) + 1 := IntWalk.i64_in _ (by omega)
        have hw0 : IntKind.i64.wrap (((dcnt g b k : Nat) : Int) + 0) = ((dcnt g b k : Nat) : Int) := by rw [Int.add_zero]; exact IntWalk.i64_in _ (by omega)
        by_cases hbx : b ∈ loopP g x
        · have HN := Lib.hid (dcnt_yes HX.out hbx)
          refine wp_region_held_drew (S := (fun W => W.cell? ⟨w.heap.size, 0, none⟩ = some (.int .i64 p) ∧ W.cell? ⟨w.heap.size, 1, none⟩ = some (.int .i64 r) ∧ W.cell? ⟨w.heap.size, 2, none⟩ = some (.slice ba g.length bc) ∧ W.cell? ⟨hb, ho + k, none⟩ = some (.int .i64 x))) (by kernel_rfl) ⟨k0, k1, k2, hcx⟩ (fun hHeld => ?_)
          refine wpAnyH_take (i := 0) (oi := ⟨some 21, _, _, _, _, _⟩) (v := ?_) rfl (by kernel_rfl) (by kernel_rfl) (by kernel_rfl) (fun _ _ _ h => h) (Or.inl ⟨by rfl, ?_⟩) (by assumption) ?_
          rotate_left
          · (intro w hSw; (try dsimp only at hSw); go_simp; all_goals (try with_reducible rfl))
          (try simp only [Act.put, List.setIfInBounds_toArray, List.set_cons_zero, List.set_cons_succ])
          refine wpAnyH_take (i := 1) (oi := ⟨some 22, _, _, _, _, _⟩) (v := ?_) rfl (by kernel_rfl) (by kernel_rfl) (by kernel_rfl) (fun _ _ _ h => h) (Or.inl ⟨by rfl, ?_⟩) (by assumption) ?_
          rotate_left
          · (intro w hSw; (try dsimp only at hSw); go_simp; all_goals (try with_reducible rfl))
          (try simp only [Act.put, List.setIfInBounds_toArray, List.set_cons_zero, List.set_cons_succ])
          refine wpAnyH_take (i := 2) (oi := ⟨some 23, _, _, _, _, _⟩) (v := ?_) rfl (by kernel_rfl) (by kernel_rfl) (by kernel_rfl) (fun _ _ _ h => h) (Or.inl ⟨by rfl, ?_⟩) (by assumption) ?_
          rotate_left
          · (intro w hSw; (try dsimp only at hSw); go_simp; all_goals (try with_reducible rfl))
          (try simp only [Act.put, List.setIfInBounds_toArray, List.set_cons_zero, List.set_cons_succ])
          refine wpAnyH_take (i := 3) (oi := ⟨some 24, _, _, _, _, _⟩) (v := ?_) rfl (by kernel_rfl) (by kernel_rfl) (by kernel_rfl) (fun _ _ _ h => h) (Or.inl ⟨by rfl, ?_⟩) (by assumption) ?_
          rotate_left
          · (intro w hSw; (try dsimp only at hSw); go_simp; all_goals (try with_reducible rfl))
          (try simp only [Act.put, List.setIfInBounds_toArray, List.set_cons_zero, List.set_cons_succ])
          refine wpAnyH_take (i := 4) (oi := ⟨some 25, _, _, _, _, _⟩) (v := ?_) rfl (by kernel_rfl) (by kernel_rfl) (by kernel_rfl) (fun _ _ _ h => h) (Or.inl ⟨by rfl, ?_⟩) (by assumption) ?_
          rotate_left
          · (intro w hSw; (try dsimp only at hSw); go_simp; all_goals (try with_reducible rfl))
          (try simp only [Act.put, List.setIfInBounds_toArray, List.set_cons_zero, List.set_cons_succ])
          refine wpAnyH_take (i := 5) (oi := ⟨some 26, _, _, _, _, _⟩) (v := ?_) rfl (by kernel_rfl) (by kernel_rfl) (by kernel_rfl) (fun _ _ _ h => h) (Or.inl ⟨by rfl, ?_⟩) (by assumption) ?_
          rotate_left
          · (intro w hSw; (try dsimp only at hSw); go_simp; all_goals (try with_reducible rfl))
          (try simp only [Act.put, List.setIfInBounds_toArray, List.set_cons_zero, List.set_cons_succ])
          refine wpAnyH_take (i := 7) (oi := ⟨some 28, _, _, _, _, _⟩) (v := ?_) rfl (by kernel_rfl) (by kernel_rfl) (by kernel_rfl) (fun _ _ _ h => h) (Or.inl ⟨by rfl, ?_⟩) (by assumption) ?_
          rotate_left
          · (intro w hSw; (try dsimp only at hSw); go_simp; all_goals (try with_reducible rfl))
          (try simp only [Act.put, List.setIfInBounds_toArray, List.set_cons_zero, List.set_cons_succ])
          refine wpAnyH_ready (rs := [6]) (by kernel_rfl) (by simp) ?_
          refine AllReadyH.cons (o := ⟨some 27, _, _, _, _, _⟩) rfl (fun K hK => ?_) AllReadyH.nil
          go_simp
          (go_at_call 51; refine (specLoopBody_rd p r ba bc g x _ (HGW.out.later (below_drewN (Below.refl _ _) 1))).mono ?_; rintro e w9 ⟨a9, c9, rfl, hrd9, hb9⟩; (have HB9 := Lib.hid (show Below wr.heap.size wr w9 from ⟨hb9.os, hb9.tape, hb9.output, hb9.size, hb9.block⟩)); (have HRD9 := Lib.hid hrd9); clear hb9 hrd9)
          refine hK.out _ _ ⟨cell_later HB9.out k0, cell_later HB9.out k1, cell_later HB9.out k2, cell_later HB9.out hcx⟩ (fun hHeld2 => ?_)
          clear hK K hHeld
          have hHeld := hHeld2
          clear hHeld2
          (try simp only [Act.put, List.setIfInBounds_toArray, List.set_cons_zero, List.set_cons_succ])
          refine wpAnyH_ready (rs := [8]) (by kernel_rfl) (by simp) ?_
          refine AllReadyH.cons (o := ⟨some 29, _, _, _, _, _⟩) rfl (fun K hK => ?_) AllReadyH.nil
          go_simp
          (go_at_call 94; refine (l10At_any a9 _ c9 (loopP g x) b w9 HRD9.out (by have := loopP_len g x; omega)).mono ?_; rintro e w10 ⟨rfl, rfl⟩; (have HIX := Lib.hid (idxInt_nonneg (x := b) (loopP g x))); generalize idxInt b (loopP g x) = ix at HIX ⊢; (have hdx : decide ((0 : Int) ≤ ix) = true := HIX.out.trans (decide_eq_true hbx)); clear HIX)
          refine hK.out _ _ ⟨cell_later HB9.out k0, cell_later HB9.out k1, cell_later HB9.out k2, cell_later HB9.out hcx⟩ (fun hHeld2 => ?_)
          clear hK K hHeld
          have hHeld := hHeld2
          clear hHeld2
          (try simp only [Act.put, List.setIfInBounds_toArray, List.set_cons_zero, List.set_cons_succ])
          refine wpAnyH_take (i := 9) (oi := ⟨some 30, _, _, _, _, _⟩) (v := ?_) rfl (by kernel_rfl) (by kernel_rfl) (by kernel_rfl) (fun _ _ _ h => h) (Or.inl ⟨by rfl, ?_⟩) (by assumption) ?_
          rotate_left
          · (intro w hSw; (try dsimp only at hSw); go_simp; all_goals (try with_reducible rfl))
          (try simp only [Act.put, List.setIfInBounds_toArray, List.set_cons_zero, List.set_cons_succ])
          refine wpAnyH_ready (rs := [10]) (by kernel_rfl) (by simp) ?_
          refine AllReadyH.cons (o := ⟨some 31, _, _, _, _, _⟩) rfl (fun K hK => ?_) AllReadyH.nil
          go_simp
          (go_at_call 98; refine (l5Truth_any true w9).mono ?_; rintro e w10 ⟨rfl, rfl⟩)
          refine hK.out _ _ ⟨cell_later HB9.out k0, cell_later HB9.out k1, cell_later HB9.out k2, cell_later HB9.out hcx⟩ (fun hHeld2 => ?_)
          clear hK K hHeld
          have hHeld := hHeld2
          clear hHeld2
          (try simp only [Act.put, List.setIfInBounds_toArray, List.set_cons_zero, List.set_cons_succ])
          refine wpAnyH_take (i := 11) (oi := ⟨some 32, _, _, _, _, _⟩) (v := ?_) rfl (by kernel_rfl) (by kernel_rfl) (by kernel_rfl) (fun _ _ _ h => h) (Or.inl ⟨by rfl, ?_⟩) (by assumption) ?_
          rotate_left
          · (intro w hSw; (try dsimp only at hSw); go_simp; all_goals (try with_reducible rfl))
          (try simp only [Act.put, List.setIfInBounds_toArray, List.set_cons_zero, List.set_cons_succ])
          refine wpAnyH_take (i := 12) (oi := ⟨some 5, _, _, _, _, _⟩) (v := ?_) rfl (by kernel_rfl) (by kernel_rfl) (by kernel_rfl) (fun _ _ _ h => h) (Or.inl ⟨by rfl, ?_⟩) (by assumption) ?_
          rotate_left
          · (intro w hSw; (try dsimp only at hSw); go_simp; all_goals (try with_reducible rfl))
          (try simp only [Act.put, List.setIfInBounds_toArray, List.set_cons_zero, List.set_cons_succ])
          refine wpAnyH_done (by kernel_rfl) ?_ _
          have HB := Lib.hid (HK.out.trans (HB9.out.mono HK.out.size))
          clear k0 k1 k2 hcx hw1 hw0
          go_wp2
          go_roundg (gk - 1)
          case measure => omega
          case rel => exact ⟨k + 1, by omega, by go_num, by rw [HN.out]; go_num, HB⟩
        · have HN := Lib.hid (dcnt_no HX.out hbx)
          refine wp_region_held_drew (S := (fun W => W.cell? ⟨w.heap.size, 0, none⟩ = some (.int .i64 p) ∧ W.cell? ⟨w.heap.size, 1, none⟩ = some (.int .i64 r) ∧ W.cell? ⟨w.heap.size, 2, none⟩ = some (.slice ba g.length bc) ∧ W.cell? ⟨hb, ho + k, none⟩ = some (.int .i64 x))) (by kernel_rfl) ⟨k0, k1, k2, hcx⟩ (fun hHeld => ?_)
          refine wpAnyH_take (i := 0) (oi := ⟨some 21, _, _, _, _, _⟩) (v := ?_) rfl (by kernel_rfl) (by kernel_rfl) (by kernel_rfl) (fun _ _ _ h => h) (Or.inl ⟨by rfl, ?_⟩) (by assumption) ?_
          rotate_left
          · (intro w hSw; (try dsimp only at hSw); go_simp; all_goals (try with_reducible rfl))
          (try simp only [Act.put, List.setIfInBounds_toArray, List.set_cons_zero, List.set_cons_succ])
          refine wpAnyH_take (i := 1) (oi := ⟨some 22, _, _, _, _, _⟩) (v := ?_) rfl (by kernel_rfl) (by kernel_rfl) (by kernel_rfl) (fun _ _ _ h => h) (Or.inl ⟨by rfl, ?_⟩) (by assumption) ?_
          rotate_left
          · (intro w hSw; (try dsimp only at hSw); go_simp; all_goals (try with_reducible rfl))
          (try simp only [Act.put, List.setIfInBounds_toArray, List.set_cons_zero, List.set_cons_succ])
          refine wpAnyH_take (i := 2) (oi := ⟨some 23, _, _, _, _, _⟩) (v := ?_) rfl (by kernel_rfl) (by kernel_rfl) (by kernel_rfl) (fun _ _ _ h => h) (Or.inl ⟨by rfl, ?_⟩) (by assumption) ?_
          rotate_left
          · (intro w hSw; (try dsimp only at hSw); go_simp; all_goals (try with_reducible rfl))
          (try simp only [Act.put, List.setIfInBounds_toArray, List.set_cons_zero, List.set_cons_succ])
          refine wpAnyH_take (i := 3) (oi := ⟨some 24, _, _, _, _, _⟩) (v := ?_) rfl (by kernel_rfl) (by kernel_rfl) (by kernel_rfl) (fun _ _ _ h => h) (Or.inl ⟨by rfl, ?_⟩) (by assumption) ?_
          rotate_left
          · (intro w hSw; (try dsimp only at hSw); go_simp; all_goals (try with_reducible rfl))
          (try simp only [Act.put, List.setIfInBounds_toArray, List.set_cons_zero, List.set_cons_succ])
          refine wpAnyH_take (i := 4) (oi := ⟨some 25, _, _, _, _, _⟩) (v := ?_) rfl (by kernel_rfl) (by kernel_rfl) (by kernel_rfl) (fun _ _ _ h => h) (Or.inl ⟨by rfl, ?_⟩) (by assumption) ?_
          rotate_left
          · (intro w hSw; (try dsimp only at hSw); go_simp; all_goals (try with_reducible rfl))
          (try simp only [Act.put, List.setIfInBounds_toArray, List.set_cons_zero, List.set_cons_succ])
          refine wpAnyH_take (i := 5) (oi := ⟨some 26, _, _, _, _, _⟩) (v := ?_) rfl (by kernel_rfl) (by kernel_rfl) (by kernel_rfl) (fun _ _ _ h => h) (Or.inl ⟨by rfl, ?_⟩) (by assumption) ?_
          rotate_left
          · (intro w hSw; (try dsimp only at hSw); go_simp; all_goals (try with_reducible rfl))
          (try simp only [Act.put, List.setIfInBounds_toArray, List.set_cons_zero, List.set_cons_succ])
          refine wpAnyH_take (i := 7) (oi := ⟨some 28, _, _, _, _, _⟩) (v := ?_) rfl (by kernel_rfl) (by kernel_rfl) (by kernel_rfl) (fun _ _ _ h => h) (Or.inl ⟨by rfl, ?_⟩) (by assumption) ?_
          rotate_left
          · (intro w hSw; (try dsimp only at hSw); go_simp; all_goals (try with_reducible rfl))
          (try simp only [Act.put, List.setIfInBounds_toArray, List.set_cons_zero, List.set_cons_succ])
          refine wpAnyH_ready (rs := [6]) (by kernel_rfl) (by simp) ?_
          refine AllReadyH.cons (o := ⟨some 27, _, _, _, _, _⟩) rfl (fun K hK => ?_) AllReadyH.nil
          go_simp
          (go_at_call 51; refine (specLoopBody_rd p r ba bc g x _ (HGW.out.later (below_drewN (Below.refl _ _) 1))).mono ?_; rintro e w9 ⟨a9, c9, rfl, hrd9, hb9⟩; (have HB9 := Lib.hid (show Below wr.heap.size wr w9 from ⟨hb9.os, hb9.tape, hb9.output, hb9.size, hb9.block⟩)); (have HRD9 := Lib.hid hrd9); clear hb9 hrd9)
          refine hK.out _ _ ⟨cell_later HB9.out k0, cell_later HB9.out k1, cell_later HB9.out k2, cell_later HB9.out hcx⟩ (fun hHeld2 => ?_)
          clear hK K hHeld
          have hHeld := hHeld2
          clear hHeld2
          (try simp only [Act.put, List.setIfInBounds_toArray, List.set_cons_zero, List.set_cons_succ])
          refine wpAnyH_ready (rs := [8]) (by kernel_rfl) (by simp) ?_
          refine AllReadyH.cons (o := ⟨some 29, _, _, _, _, _⟩) rfl (fun K hK => ?_) AllReadyH.nil
          go_simp
          (go_at_call 94; refine (l10At_any a9 _ c9 (loopP g x) b w9 HRD9.out (by have := loopP_len g x; omega)).mono ?_; rintro e w10 ⟨rfl, rfl⟩; (have HIX := Lib.hid (idxInt_nonneg (x := b) (loopP g x))); generalize idxInt b (loopP g x) = ix at HIX ⊢; (have hdx : decide ((0 : Int) ≤ ix) = false := HIX.out.trans (decide_eq_false hbx)); clear HIX)
          refine hK.out _ _ ⟨cell_later HB9.out k0, cell_later HB9.out k1, cell_later HB9.out k2, cell_later HB9.out hcx⟩ (fun hHeld2 => ?_)
          clear hK K hHeld
          have hHeld := hHeld2
          clear hHeld2
          (try simp only [Act.put, List.setIfInBounds_toArray, List.set_cons_zero, List.set_cons_succ])
          refine wpAnyH_take (i := 9) (oi := ⟨some 30, _, _, _, _, _⟩) (v := ?_) rfl (by kernel_rfl) (by kernel_rfl) (by kernel_rfl) (fun _ _ _ h => h) (Or.inl ⟨by rfl, ?_⟩) (by assumption) ?_
          rotate_left
          · (intro w hSw; (try dsimp only at hSw); go_simp; all_goals (try with_reducible rfl))
          (try simp only [Act.put, List.setIfInBounds_toArray, List.set_cons_zero, List.set_cons_succ])
          refine wpAnyH_ready (rs := [10]) (by kernel_rfl) (by simp) ?_
          refine AllReadyH.cons (o := ⟨some 31, _, _, _, _, _⟩) rfl (fun K hK => ?_) AllReadyH.nil
          go_simp
          (go_at_call 98; refine (l5Truth_any false w9).mono ?_; rintro e w10 ⟨rfl, rfl⟩)
          refine hK.out _ _ ⟨cell_later HB9.out k0, cell_later HB9.out k1, cell_later HB9.out k2, cell_later HB9.out hcx⟩ (fun hHeld2 => ?_)
          clear hK K hHeld
          have hHeld := hHeld2
          clear hHeld2
          (try simp only [Act.put, List.setIfInBounds_toArray, List.set_cons_zero, List.set_cons_succ])
          refine wpAnyH_take (i := 11) (oi := ⟨some 32, _, _, _, _, _⟩) (v := ?_) rfl (by kernel_rfl) (by kernel_rfl) (by kernel_rfl) (fun _ _ _ h => h) (Or.inl ⟨by rfl, ?_⟩) (by assumption) ?_
          rotate_left
          · (intro w hSw; (try dsimp only at hSw); go_simp; all_goals (try with_reducible rfl))
          (try simp only [Act.put, List.setIfInBounds_toArray, List.set_cons_zero, List.set_cons_succ])
          refine wpAnyH_take (i := 12) (oi := ⟨some 5, _, _, _, _, _⟩) (v := ?_) rfl (by kernel_rfl) (by kernel_rfl) (by kernel_rfl) (fun _ _ _ h => h) (Or.inl ⟨by rfl, ?_⟩) (by assumption) ?_
          rotate_left
          · (intro w hSw; (try dsimp only at hSw); go_simp; all_goals (try with_reducible rfl))
          (try simp only [Act.put, List.setIfInBounds_toArray, List.set_cons_zero, List.set_cons_succ])
          refine wpAnyH_done (by kernel_rfl) ?_ _
          have HB := Lib.hid (HK.out.trans (HB9.out.mono HK.out.size))
          clear k0 k1 k2 hcx hw1 hw0
          go_wp2
          go_roundg (gk - 1)
          case measure => omega
          case rel => exact ⟨k + 1, by omega, by go_num, by rw [HN.out, IntWalk.i64_in _ (by omega)], HB⟩
      · obtain rfl : k = (headsP g).length := by omega
        have HN := Lib.hid (HO3.out.2.1.trans (HK.out.mono HO3.out.2.1.size))
        go_wp2
        go_ret
        exact ⟨ret_int HP.out.symm, HN.out⟩
  · have hi1 : ix < 0 := by have := HIN.out; rw [decide_eq_false hm] at this; have := of_decide_eq_false this; omega
    have HP := Lib.hid (show depthL g b = -1 by rw [depthL, if_neg hm])
    clear hm HIN
    go_wp2
    go_ret
    exact ⟨ret_int HP.out.symm, HO.out.2.1⟩

theorem reachedP_has {g : List (List Int)} (hf : Fits g) (b : Int) : hasP g b = decide (b ∈ reachedP g) := by
  have hm : b ∈ reachedP g ↔ 0 ≤ b ∧ Reach g (-1) b.toNat := by
    rw [reachedP, if_pos (fits_iff.2 hf), sortU_mem, leftOf_mem hf]
  by_cases h : b ∈ reachedP g
  · rw [decide_eq_true h]
    obtain ⟨h0, hr⟩ := hm.1 h
    have := hr.lt
    rw [hasP, reachB_true.2 hr, okN_iff.2 ⟨h0, by omega⟩]; rfl
  · rw [decide_eq_false h]
    cases hh : hasP g b with
    | false => rfl
    | true =>
      rw [hasP, Bool.and_eq_true, okN_iff, reachB_true] at hh
      exact absurd (hm.2 ⟨hh.1.1, hh.2⟩) h
theorem loopP_head {g : List (List Int)} {x : Int} (hm : x ∈ headsP g) : ∃ i : Nat, x = (i : Int) ∧ i < g.length ∧ reachB g (-1) i = true ∧ loopP g (i : Int) = loopL g i := by
  obtain ⟨_, i, rfl, hil, hhb⟩ := headsP_mem hm
  exact ⟨i, rfl, hil, head_reached hhb, by rw [loopP, if_pos hm, Int.toNat_natCast]⟩

set_option maxRecDepth 100000 in
set_option maxHeartbeats 2000000 in
theorem implLoopDepth_any (p r : Int) (ba : Option Addr) (bc : Nat) (g : List (List Int)) (b : Int) (w : World) (hg : Gr w ba g) :
    Calls Try.prog 50 #[.agg #[.int .i64 p, .int .i64 r, .slice ba g.length bc], .int .i64 b] w fun e w' => e = .returned (.int .i64 (depthL g b)) ∧ Below w.heap.size w w' := by
  have hb0 := below_box w (.int .i64 p) (.int .i64 r) (.slice ba g.length bc)
  have hlen := hg.len
  have hhl := headsP_le hg
  go_enter Try.func50, Try.ntmps50
  go_wp2_with fail
  refine (domsOf_any g p r ba bc _ (hg.later hb0)).mono ?_
  rintro e w1 ⟨hb1, hcase⟩
  have hb01 := hb0.trans (hb1.mono hb0.size)
  rcases hcase with ⟨hf, rfl⟩ | ⟨hf, db, oa, oc, sb, rfl, hD⟩
  · have HP := Lib.hid (show depthL g b = -1 by rw [depthL, reachedP, hf]; rfl)
    clear hf
    go_wp2_with fail
    refine (has_nil b w1).mono ?_
    rintro e w2 ⟨rfl, hb2⟩
    have HB := Lib.hid (hb01.trans (hb2.mono hb01.size))
    clear hb2
    go_wp2
    go_ret
    exact ⟨ret_int HP.out.symm, HB.out⟩
  · go_wp2_with fail
    refine (has_any p r ba bc g db oa oc sb b w1 hD hlen).mono ?_
    rw [reachedP_has hf]
    rintro e w2 ⟨rfl, hb2⟩
    have hb02 := hb01.trans (hb2.mono hb01.size)
    have HD2 := Lib.hid (And.intro (hD.later hb2) hb02)
    clear hb2 hD hb01 hb0 hb1
    by_cases hm : b ∈ reachedP g
    · have hd : decide (b ∈ reachedP g) = true := decide_eq_true hm
      have HP := Lib.hid (show depthL g b = (dcnt g b (headsP g).length : Int) by rw [depthL, if_pos hm])
      have HH := Lib.hid (show headsP g = filtTo (headB g) g.length by rw [headsP, fits_iff.2 hf]; rfl)
      clear hm
      go_wp2_with fail
      refine (heads_any p r ba bc g hf db oa oc sb w2 (hg.later HD2.out.2) HD2.out.1 hlen).mono ?_
      rw [← HH.out]
      rintro e w3 ⟨a3, c3, rfl, hown3, hb3⟩
      have HO3 := Lib.hid (And.intro (ints_of_own hown3).toIntsRd (And.intro (HD2.out.1.later hb3) (HD2.out.2.trans (hb3.mono HD2.out.2.size))))
      clear hown3 hb3 hd
      go_wp2_with fail
      go_loopg [6, 18] (headsP g).length (fun F n i wr => ∃ k : Nat, k + F = (headsP g).length ∧ i = .int .i64 k ∧ n = .int .i64 (dcnt g b k : Nat) ∧ Hid (Below w3.heap.size w3 wr))
      case atStart => exact ⟨0, by omega, rfl, rfl, Lib.hid (Below.refl _ _)⟩
      case round =>
        obtain ⟨k, hk, rfl, rfl, HK⟩ := hrel
        by_cases hlt : k < (headsP g).length
        · obtain ⟨hb, ho, x, rfl, hx, hcx⟩ := (HO3.out.1.later HK.out).place hlt
          obtain ⟨i, rfl, hil, hir, hlp⟩ := loopP_head (List.mem_of_getElem? hx)
          have hki : (k : Int) < ((headsP g).length : Int) := by omega
          have hdl := dcnt_le g b k
          have HX := Lib.hid hx
          have HBW := Lib.hid (HO3.out.2.2.trans (HK.out.mono HO3.out.2.2.size))
          have HBD := Lib.hid (body_any p r ba bc g hf db oa oc sb i hil hir wr (hg.later HBW.out) (HO3.out.2.1.later HK.out))
          have hll := loopL_len g i
          clear hx
          go_wp2_with fail
          refine HBD.out.mono ?_
          rw [← hlp]
          rintro e w5 ⟨a5, c5, rfl, hown5, hb5⟩
          have HO5 := Lib.hid (And.intro (ints_of_own hown5).toIntsRd (HK.out.trans (hb5.mono HK.out.size)))
          rw [← hlp] at hll
          clear hown5 hb5 hcx hlp HBD
          go_wp2_with fail
          refine (contains_any a5 _ c5 (loopP g (i : Int)) b w5 HO5.out.1 (by omega)).mono ?_
          rintro e w6 ⟨rfl, rfl⟩
          by_cases hbx : b ∈ loopP g (i : Int)
          · have hd : decide (b ∈ loopP g (i : Int)) = true := decide_eq_true hbx
            have HN := Lib.hid (dcnt_yes HX.out hbx)
            clear hbx hll
            go_wp2
            go_roundg (gk - 1)
            case measure => omega
            case rel => exact ⟨k + 1, by omega, by go_num, by rw [HN.out]; go_num, Lib.hid HO5.out.2⟩
          · have hd : decide (b ∈ loopP g (i : Int)) = false := decide_eq_false hbx
            have HN := Lib.hid (dcnt_no HX.out hbx)
            clear hbx hll
            go_wp2
            go_roundg (gk - 1)
            case measure => omega
            case rel => exact ⟨k + 1, by omega, by go_num, by rw [HN.out], Lib.hid HO5.out.2⟩
        · obtain rfl : k = (headsP g).length := by omega
          have HN := Lib.hid (HO3.out.2.2.trans (HK.out.mono HO3.out.2.2.size))
          go_wp2
          go_ret
          exact ⟨ret_int HP.out.symm, HN.out⟩
    · have hd : decide (b ∈ reachedP g) = false := decide_eq_false hm
      have HP := Lib.hid (show depthL g b = -1 by rw [depthL, if_neg hm])
      clear hm
      go_wp2
      go_ret
      exact ⟨ret_int HP.out.symm, HD2.out.2⟩

end Go.Proofs.Ytkhnhdgbbjppeaa
