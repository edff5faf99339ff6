/-
  The drawn unit, bent: l7Bent. (printed by mkdg9.py)
-/
import Derived.Test.YtajnldkempeheaaDg7
import Derived.Test.YtajnldkempeheaaDg8

namespace Go.Proofs.Ytajnldkempeheaa
open Go.RowKit
set_option linter.unusedVariables false
set_option linter.unusedSimpArgs false

/-- A unit was drawn; it may be bent. -/
def BentAns (w0 : World) (br : Nat) (ra : Option Addr) (rl rc : Nat) (bs : List Int) (K : Nat) (w : World) (e : Ending) (w' : World) : Prop :=
  ∃ (us : List CodeD) (ua : Option Addr) (uc : Nat), e = .returned (.agg #[.slice ua us.length uc]) ∧ SepK 3 37 CodeK (fun k => w.heap.size ≤ k) w' ua us.length uc us ∧ (1 ≤ us.length ∧ us.length ≤ 3) ∧ (∀ c ∈ us, BentU c) ∧ RdAt w0 br ra rl rc bs K w w'
section
variable {w0 w W W' W1 w2 w3 : World} {br : Nat} {ra : Option Addr} {rl rc : Nat} {bs : List Int} {ub rb : Nat} {us : List CodeD} {ua : Option Addr} {uc : Nat} {S : Nat → Prop} {K K' K2 : Nat}
theorem UnSt.keep (h : UnSt w0 br ra rl rc bs w ub rb us ua uc S K W) {j g : Nat} {x : CodeD} (hx : us[j]? = some x) (hua : ua = some ⟨g, 0, none⟩) (hg : W.grownBy W' (some br)) {v : Value} (hc : W.cell? ⟨g, j * 3 + 2, none⟩ = some v) : W'.cell? ⟨g, j * 3 + 2, none⟩ = some v := by
  obtain ⟨g', ba, bc', pre, post, F, hua', hm, hbl, hF, hgS, -⟩ := h.setC hx
  rw [hua] at hua'
  cases hua'
  have h2 := hm.cell (q := 2) rfl
  rw [hc] at h2
  rw [h2]
  exact (hm.turned (turned_of_grown hg (S := fun k => k = br) (fun k hk => (Option.some.inj hk).symm)) (fun e => (h.sS g hgS).1 e)).cell (q := 2) rfl
theorem UnSt.blocks (h : UnSt w0 br ra rl rc bs w ub rb us ua uc S K W) {j g : Nat} {x : CodeD} (hx : us[j]? = some x) (hua : ua = some ⟨g, 0, none⟩) (hn : 1 ≤ x.blocks.length) : ∃ gb bc, W.cell? ⟨g, j * 3 + 2, none⟩ = some (.slice (some ⟨gb, 0, none⟩) x.blocks.length bc) := by
  obtain ⟨g', ba, bc', pre, post, F, hua', hm, hbl, hF, hgS, -⟩ := h.setC hx
  rw [hua] at hua'
  cases hua'
  rcases hbl.case with ⟨-, h0, -⟩ | ⟨gb, rfl⟩
  · omega
  · exact ⟨gb, bc', hm.cell (q := 2) rfl⟩
theorem BtSt.keepI {j b : Nat} {x : CodeD} {y : BlockD} {g gb bc : Nat} (h : BtSt w0 br ra rl rc bs w ub rb us ua uc S j b x y g gb bc K W) (hg : W.grownBy W' (some br)) {v : Value} (hc : W.cell? ⟨gb, b * 5 + 1, none⟩ = some v) : W'.cell? ⟨gb, b * 5 + 1, none⟩ = some v := by
  obtain ⟨pa, pc, ia, ic, na, nc, pre, post, pre2, post2, S1, S2, S3, F, hB, -⟩ := h.open
  have h2 := hB.blk.cell (q := 1) rfl
  rw [hc] at h2
  rw [h2]
  exact (hB.blk.turned (turned_of_grown hg (S := fun k => k = br) (fun k hk => (Option.some.inj hk).symm)) (fun e => (h.un.sS gb hB.own.2.1).1 e)).cell (q := 1) rfl
theorem UnSt.copied {a3 : Option Addr} {c3 : Nat} (hR : RdAt w0 br ra rl rc bs K w w) (hW : W1.heap[w.heap.size]? = some (.cells #[.slice none 0 0] 25 (0, 0)) ∧ Below w.heap.size w W1) (hR2 : RdAt w0 br ra rl rc bs K2 W1 w2) (hk3 : SepK 3 37 CodeK (fun k => w2.heap.size ≤ k) w3 a3 us.length c3 us) (hb3 : Below w2.heap.size w2 w3) :
    UnSt w0 br ra rl rc bs w w3.heap.size w.heap.size us a3 c3 (fun q => w2.heap.size ≤ q ∧ q < w3.heap.size) K2 (w3.alloc (.cells #[.slice a3 us.length c3] 25)) := by
  have hba : Below w3.heap.size w3 (w3.alloc (.cells #[.slice a3 us.length c3] 25)) := (Below.refl _ _).alloc (Nat.le_refl _) _
  have hlt := hR.lt
  have hb := hR.base.size
  have h1 := (Array.getElem?_eq_some_iff.1 hW.1).1
  have h2 := hR2.turned.size
  have h3 := hb3.size
  have hr2 := (hR2.turned.block w.heap.size h1 (by omega)).trans hW.1
  have hr3 := (hb3.block w.heap.size (by omega)).trans hr2
  refine ⟨heap_alloc_new _ _, (hba.block w.heap.size (by omega)).trans hr3, (hk3.here codeK_sets).below codeK_sets hba, fun q hq => ?_, ((RdAt.later (w1 := w) hR hW.2).trans hR2 |>.later hb3).later hba, by omega⟩
  have hw1 := hW.2.size
  rw [World.size_alloc]
  omega
theorem BentE.fin (h : UnSt w0 br ra rl rc bs w ub rb us ua uc S K W ∧ (1 ≤ us.length ∧ us.length ≤ 3) ∧ ∀ c ∈ us, BentU c) (ht : Turned (fun k => k = rb) W W') (hK : K ≤ K') : BentAns w0 br ra rl rc bs K' w (.returned (.agg #[.slice ua us.length uc])) W' := by
  have hlt := h.1.lt
  exact ⟨us, ua, uc, rfl, (h.1.un.turned codeK_sets ht (fun q _ h1 h2 => by have := h.1.su q h1; omega)).mono (fun q hq => (h.1.su q hq).1), h.2.1, h.2.2, (h.1.rdOwn ht (fun k hk _ => by omega)).more hK⟩
end
section
variable {w0 w : World} {br : Nat} {ra : Option Addr} {rl rc : Nat} {bs : List Int} {K : Nat}
set_option maxRecDepth 100000 in
set_option maxHeartbeats 8000000 in
theorem l7Bent_any (hC : CopyBlkC) (hR : RdAt w0 br ra rl rc bs K w w) (hrl : rl ≤ 2000) (hK : K + 1400 ≤ 1000000) :
    Calls Try.prog 23 #[.pointer (some ⟨br, 0, none⟩)] w fun e w' => BentAns w0 br ra rl rc bs (K + 1400) w e w' := by
  have HR := Lib.hid hR
  have HCB := Lib.hid hC
  have hba : Below w.heap.size w (w.alloc (.cells #[.slice none 0 0] 25)) := (Below.refl _ _).alloc (Nat.le_refl _) _
  have HW1 := Lib.hid (show (w.alloc (.cells #[.slice none 0 0] 25)).heap[w.heap.size]? = some (.cells #[.slice none 0 0] 25 (0, 0)) ∧ Below w.heap.size w (w.alloc (.cells #[.slice none 0 0] 25)) from ⟨heap_alloc_new _ _, hba⟩)
  obtain ⟨rb, hrb⟩ : ∃ b, b = w.heap.size := ⟨_, rfl⟩
  have HRB := Lib.hid hrb
  clear hba hR hC hrb
  go_enter Try.func23, Try.ntmps23
  go_upto_region 1 with fail
  rw [← HRB.out]
  generalize w.alloc (.cells #[.slice none 0 0] 25) = W1 at HW1 ⊢
  have HU1 := Lib.hid (l7Unit_any (w := W1) ⟨(HR.out.later HW1.out.2).rd, Turned.refl _ _⟩ hrl (by omega))
  go_wp2_with fail
  refine HU1.out.mono ?_
  rintro e w2 ⟨us, ua2, uc2, rfl, hk2, hl2, hs2, hR2⟩
  have HU2 := Lib.hid (And.intro hl2 (And.intro hs2 hR2))
  have HCU := Lib.hid (l7CopyUnit_any HCB.out us ua2 uc2 w2 (hk2.rd codeK_rd) (by omega) (fun c hc => by have := (hs2 c hc).sz; omega))
  clear hk2 hl2 hs2 hR2 HU1
  go_wp2_with fail
  refine HCU.out.mono ?_
  rintro e w3 ⟨a3, c3, rfl, hk3, hb3⟩
  have hU := UnSt.copied HR.out HW1.out HU2.out.2.2 hk3 hb3
  rw [← HRB.out] at hU
  obtain ⟨ub, hub⟩ : ∃ b, b = w3.heap.size := ⟨_, rfl⟩
  obtain ⟨S, hSd⟩ : ∃ S, S = (fun q => w2.heap.size ≤ q ∧ q < w3.heap.size) := ⟨_, rfl⟩
  rw [← hub] at hU
  rw [show (fun q => w2.heap.size ≤ q ∧ q < ub) = (fun q => w2.heap.size ≤ q ∧ q < w3.heap.size) by rw [hub], ← hSd] at hU
  have HU4 := Lib.hid hU
  have hul := HU2.out.1
  have HX := Lib.hid HU2.out.2.1
  clear hU hk3 hb3 HCU HR HW1 hSd
  go_upto_region 2 with fail
  rw [← hub]
  generalize w3.alloc (.cells #[.slice a3 us.length c3] 25) = w4 at HU4 ⊢
  clear hub HU2
  obtain ⟨g, rfl⟩ : ∃ g, a3 = some ⟨g, 0, none⟩ := by
    rcases HU4.out.un.case with ⟨-, h0, -⟩ | h
    · omega
    · exact h
  have hul2 : (us.length : Int) ≤ 3 := by omega
  have HU5 := Lib.hid (HU4.out.later (Below.refl w4.heap.size w4).drew)
  have HP := Lib.hid (pickR HU5.out.rd hrl (by omega) (n := (us.length : Int)) (by omega))
  clear HU4
  refine wp_region_L (S := fun W : World => W.cell? ⟨ub, 0, none⟩ = some (Value.slice (some ⟨g, 0, none⟩) us.length c3)) (by kernel_rfl) ?_
  have hHeld : (fun W : World => W.cell? ⟨ub, 0, none⟩ = some (Value.slice (some ⟨g, 0, none⟩) us.length c3)) _ := cell_of_row _ _ 0 _ _ _ HU5.out.u
  generalize w4.drew = w5 at HU5 HP hHeld ⊢
  refine wpAnyL_take 1 (i := 0) (oi := ⟨some 10, _, _, _, _, _⟩) (v := ?_) rfl (by kernel_rfl) (by kernel_rfl) (by kernel_rfl) (by kernel_rfl) (fun _ _ _ h => h) (Or.inl ⟨by rfl, ?_⟩) hHeld ?_
  rotate_left
  · (intro w hSw; (try dsimp only at hSw); go_simp; all_goals (try with_reducible rfl))
  (try simp only [Act.put, List.setIfInBounds_toArray, List.set_cons_zero, List.set_cons_succ])
  refine wpAnyL_take 7 (i := 1) (oi := ⟨some 11, _, _, _, _, _⟩) (v := ?_) rfl (by kernel_rfl) (by kernel_rfl) (by kernel_rfl) (by kernel_rfl) (fun _ _ _ h => h) (Or.inl ⟨by rfl, ?_⟩) hHeld ?_
  rotate_left
  · (intro w hSw; (try dsimp only at hSw); go_simp; all_goals (try with_reducible rfl))
  (try simp only [Act.put, List.setIfInBounds_toArray, List.set_cons_zero, List.set_cons_succ])
  refine wpAnyL_take 6 (i := 2) (oi := ⟨some 12, _, _, _, _, _⟩) (v := ?_) rfl (by kernel_rfl) (by kernel_rfl) (by kernel_rfl) (by kernel_rfl) (fun _ _ _ h => h) (Or.inl ⟨by rfl, ?_⟩) hHeld ?_
  rotate_left
  · (intro w hSw; (try dsimp only at hSw); go_simp; all_goals (try with_reducible rfl))
  (try simp only [Act.put, List.setIfInBounds_toArray, List.set_cons_zero, List.set_cons_succ])
  refine wpAnyL_take 4 (i := 3) (oi := ⟨some 13, _, _, _, _, _⟩) (v := ?_) rfl (by kernel_rfl) (by kernel_rfl) (by kernel_rfl) (by kernel_rfl) (fun _ _ _ h => h) (Or.inl ⟨by rfl, ?_⟩) hHeld ?_
  rotate_left
  · (intro w hSw; (try dsimp only at hSw); go_simp; all_goals (try with_reducible rfl))
  (try simp only [Act.put, List.setIfInBounds_toArray, List.set_cons_zero, List.set_cons_succ])
  refine wpAnyL_take 5 (i := 4) (oi := ⟨some 14, _, _, _, _, _⟩) (v := ?_) rfl (by kernel_rfl) (by kernel_rfl) (by kernel_rfl) (by kernel_rfl) (fun _ _ _ h => h) (Or.inl ⟨by rfl, ?_⟩) hHeld ?_
  rotate_left
  · (intro w hSw; (try dsimp only at hSw); go_simp; all_goals (try with_reducible rfl))
  (try simp only [Act.put, List.setIfInBounds_toArray, List.set_cons_zero, List.set_cons_succ])
  refine wpAnyL_take 6 (i := 5) (oi := ⟨some 15, _, _, _, _, _⟩) (v := ?_) rfl (by kernel_rfl) (by kernel_rfl) (by kernel_rfl) (by kernel_rfl) (fun _ _ _ h => h) (Or.inl ⟨by rfl, ?_⟩) hHeld ?_
  rotate_left
  · (intro w hSw; (try dsimp only at hSw); go_simp; all_goals (try with_reducible rfl))
  (try simp only [Act.put, List.setIfInBounds_toArray, List.set_cons_zero, List.set_cons_succ])
  refine wpAnyL_ready (rs := [6]) (by kernel_rfl) (by simp) ?_
  refine AllReadyL.cons (o := ⟨some 16, _, _, _, _, _⟩) rfl (fun K hK => ?_) AllReadyL.nil
  go_simp
  go_at_call 22
  refine HP.out.mono ?_
  rintro e w6 ⟨jI, rfl, hj, hR6, hg6⟩
  obtain ⟨j, rfl⟩ : ∃ j : Nat, jI = (j : Int) := ⟨jI.toNat, by omega⟩
  have HU6 := Lib.hid (HU5.out.drew hg6 hR6)
  have hj0 := hj.1
  have hj1 := hj.2
  clear hj hR6 hg6
  have hHeld2 : (fun W : World => W.cell? ⟨ub, 0, none⟩ = some (Value.slice (some ⟨g, 0, none⟩) us.length c3)) _ := cell_of_row _ _ 0 _ _ _ HU6.out.u
  refine hK.out _ _ (fun _ => hHeld2) ?_
  clear hK K hHeld
  have hHeld := hHeld2
  clear hHeld2
  (try simp only [Act.put, List.setIfInBounds_toArray, List.set_cons_zero, List.set_cons_succ])
  refine wpAnyL_take 8 (i := 7) (oi := ⟨some 17, _, _, _, _, _⟩) (v := ?_) rfl (by kernel_rfl) (by kernel_rfl) (by kernel_rfl) (by kernel_rfl) (fun _ _ _ h => h) (Or.inl ⟨by rfl, ?_⟩) hHeld ?_
  rotate_left
  · (intro w hSw; (try dsimp only at hSw); go_simp; all_goals (try with_reducible rfl))
  (try simp only [Act.put, List.setIfInBounds_toArray, List.set_cons_zero, List.set_cons_succ])
  refine wpAnyL_ready (rs := [8]) (by kernel_rfl) (by simp) ?_
  refine AllReadyL.cons (o := ⟨some 4, _, _, _, _, _⟩) rfl (fun K hK => ?_) AllReadyL.nil
  go_simp
  refine hK.out _ _ (lastL (by kernel_rfl)) ?_
  clear hK K hHeld
  (try simp only [Act.put, List.setIfInBounds_toArray, List.set_cons_zero, List.set_cons_succ])
  refine wpAnyL_done (by kernel_rfl) ?_ _
  have hjl : j < us.length := by omega
  obtain ⟨x, hx⟩ : ∃ x, us[j]? = some x := ⟨_, List.getElem?_eq_getElem hjl⟩
  have HJ := Lib.hid hx
  have HSX := Lib.hid (HX.out x (List.mem_of_getElem? hx))
  have hbl := HSX.out.2.2.1
  have hrg := HSX.out.2.1
  have hbl2 : (x.blocks.length : Int) ≤ 7 := by omega
  have HU7 := Lib.hid (HU6.out.later (Below.refl w6.heap.size w6).drew)
  have HP := Lib.hid (pickR HU7.out.rd hrl (by omega) (n := (x.blocks.length : Int)) (by omega))
  obtain ⟨gb, bc, hgb⟩ := HU7.out.blocks HJ.out rfl hbl.1
  have HGB := Lib.hid hgb
  clear HU5 hx hjl hj0 hj1 hgb
  go_upto_region 3 with fail
  refine wp_region_L (S := fun W : World => W.cell? ⟨g, j * 3 + 2, none⟩ = some (Value.slice (some ⟨gb, 0, none⟩) x.blocks.length bc)) (by kernel_rfl) ?_
  have hHeld : (fun W : World => W.cell? ⟨g, j * 3 + 2, none⟩ = some (Value.slice (some ⟨gb, 0, none⟩) x.blocks.length bc)) _ := HGB.out
  generalize w6.drew = w7 at HU7 HP HGB hHeld ⊢
  refine wpAnyL_take 1 (i := 0) (oi := ⟨some 18, _, _, _, _, _⟩) (v := ?_) rfl (by kernel_rfl) (by kernel_rfl) (by kernel_rfl) (by kernel_rfl) (fun _ _ _ h => h) (Or.inl ⟨by rfl, ?_⟩) hHeld ?_
  rotate_left
  · (intro w hSw; (try dsimp only at hSw); go_simp; all_goals (try with_reducible rfl))
  (try simp only [Act.put, List.setIfInBounds_toArray, List.set_cons_zero, List.set_cons_succ])
  refine wpAnyL_take 2 (i := 1) (oi := ⟨some 19, _, _, _, _, _⟩) (v := ?_) rfl (by kernel_rfl) (by kernel_rfl) (by kernel_rfl) (by kernel_rfl) (fun _ _ _ h => h) (Or.inl ⟨by rfl, ?_⟩) hHeld ?_
  rotate_left
  · (intro w hSw; (try dsimp only at hSw); go_simp; all_goals (try with_reducible rfl))
  (try simp only [Act.put, List.setIfInBounds_toArray, List.set_cons_zero, List.set_cons_succ])
  refine wpAnyL_take 3 (i := 2) (oi := ⟨some 20, _, _, _, _, _⟩) (v := ?_) rfl (by kernel_rfl) (by kernel_rfl) (by kernel_rfl) (by kernel_rfl) (fun _ _ _ h => h) (Or.inl ⟨by rfl, ?_⟩) hHeld ?_
  rotate_left
  · (intro w hSw; (try dsimp only at hSw); go_simp; all_goals (try with_reducible rfl))
  (try simp only [Act.put, List.setIfInBounds_toArray, List.set_cons_zero, List.set_cons_succ])
  refine wpAnyL_take 11 (i := 3) (oi := ⟨some 21, _, _, _, _, _⟩) (v := ?_) rfl (by kernel_rfl) (by kernel_rfl) (by kernel_rfl) (by kernel_rfl) (fun _ _ _ h => h) (Or.inl ⟨by rfl, ?_⟩) hHeld ?_
  rotate_left
  · (intro w hSw; (try dsimp only at hSw); go_simp; all_goals (try with_reducible rfl))
  (try simp only [Act.put, List.setIfInBounds_toArray, List.set_cons_zero, List.set_cons_succ])
  refine wpAnyL_take 10 (i := 4) (oi := ⟨some 22, _, _, _, _, _⟩) (v := ?_) rfl (by kernel_rfl) (by kernel_rfl) (by kernel_rfl) (by kernel_rfl) (fun _ _ _ h => h) (Or.inl ⟨by rfl, ?_⟩) hHeld ?_
  rotate_left
  · (intro w hSw; (try dsimp only at hSw); go_simp; all_goals (try with_reducible rfl))
  (try simp only [Act.put, List.setIfInBounds_toArray, List.set_cons_zero, List.set_cons_succ])
  refine wpAnyL_take 6 (i := 5) (oi := ⟨some 23, _, _, _, _, _⟩) (v := ?_) rfl (by kernel_rfl) (by kernel_rfl) (by kernel_rfl) (by kernel_rfl) (fun _ _ _ h => h) (Or.inl ⟨by rfl, ?_⟩) hHeld ?_
  rotate_left
  · (intro w hSw; (try dsimp only at hSw); go_simp; all_goals (try with_reducible rfl))
  (try simp only [Act.put, List.setIfInBounds_toArray, List.set_cons_zero, List.set_cons_succ])
  refine wpAnyL_take 7 (i := 6) (oi := ⟨some 24, _, _, _, _, _⟩) (v := ?_) rfl (by kernel_rfl) (by kernel_rfl) (by kernel_rfl) (by kernel_rfl) (fun _ _ _ h => h) (Or.inl ⟨by rfl, ?_⟩) hHeld ?_
  rotate_left
  · (intro w hSw; (try dsimp only at hSw); go_simp; all_goals (try with_reducible rfl))
  (try simp only [Act.put, List.setIfInBounds_toArray, List.set_cons_zero, List.set_cons_succ])
  refine wpAnyL_take 8 (i := 7) (oi := ⟨some 25, _, _, _, _, _⟩) (v := ?_) rfl (by kernel_rfl) (by kernel_rfl) (by kernel_rfl) (by kernel_rfl) (fun _ _ _ h => h) (Or.inl ⟨by rfl, ?_⟩) hHeld ?_
  rotate_left
  · (intro w hSw; (try dsimp only at hSw); go_simp; all_goals (try with_reducible rfl))
  (try simp only [Act.put, List.setIfInBounds_toArray, List.set_cons_zero, List.set_cons_succ])
  refine wpAnyL_take 9 (i := 8) (oi := ⟨some 26, _, _, _, _, _⟩) (v := ?_) rfl (by kernel_rfl) (by kernel_rfl) (by kernel_rfl) (by kernel_rfl) (fun _ _ _ h => h) (Or.inl ⟨by rfl, ?_⟩) hHeld ?_
  rotate_left
  · (intro w hSw; (try dsimp only at hSw); go_simp; all_goals (try with_reducible rfl))
  (try simp only [Act.put, List.setIfInBounds_toArray, List.set_cons_zero, List.set_cons_succ])
  refine wpAnyL_take 10 (i := 9) (oi := ⟨some 27, _, _, _, _, _⟩) (v := ?_) rfl (by kernel_rfl) (by kernel_rfl) (by kernel_rfl) (by kernel_rfl) (fun _ _ _ h => h) (Or.inl ⟨by rfl, ?_⟩) hHeld ?_
  rotate_left
  · (intro w hSw; (try dsimp only at hSw); go_simp; all_goals (try with_reducible rfl))
  (try simp only [Act.put, List.setIfInBounds_toArray, List.set_cons_zero, List.set_cons_succ])
  refine wpAnyL_ready (rs := [10]) (by kernel_rfl) (by simp) ?_
  refine AllReadyL.cons (o := ⟨some 28, _, _, _, _, _⟩) rfl (fun K hK => ?_) AllReadyL.nil
  go_simp
  go_at_call 22
  refine HP.out.mono ?_
  rintro e w8 ⟨bI, rfl, hb, hR8, hg8⟩
  obtain ⟨b, rfl⟩ : ∃ b : Nat, bI = (b : Int) := ⟨bI.toNat, by omega⟩
  have HU8 := Lib.hid (HU7.out.drew hg8 hR8)
  have HGB8 := Lib.hid (HU7.out.keep HJ.out rfl hg8 HGB.out)
  have hb0 := hb.1
  have hb1 := hb.2
  clear hb hR8 hg8
  have hHeld2 : (fun W : World => W.cell? ⟨g, j * 3 + 2, none⟩ = some (Value.slice (some ⟨gb, 0, none⟩) x.blocks.length bc)) _ := HGB8.out
  refine hK.out _ _ (fun _ => hHeld2) ?_
  clear hK K hHeld
  have hHeld := hHeld2
  clear hHeld2
  (try simp only [Act.put, List.setIfInBounds_toArray, List.set_cons_zero, List.set_cons_succ])
  refine wpAnyL_take 12 (i := 11) (oi := ⟨some 29, _, _, _, _, _⟩) (v := ?_) rfl (by kernel_rfl) (by kernel_rfl) (by kernel_rfl) (by kernel_rfl) (fun _ _ _ h => h) (Or.inl ⟨by rfl, ?_⟩) hHeld ?_
  rotate_left
  · (intro w hSw; (try dsimp only at hSw); go_simp; all_goals (try with_reducible rfl))
  (try simp only [Act.put, List.setIfInBounds_toArray, List.set_cons_zero, List.set_cons_succ])
  refine wpAnyL_ready (rs := [12]) (by kernel_rfl) (by simp) ?_
  refine AllReadyL.cons (o := ⟨some 5, _, _, _, _, _⟩) rfl (fun K hK => ?_) AllReadyL.nil
  go_simp
  refine hK.out _ _ (lastL (by kernel_rfl)) ?_
  clear hK K hHeld
  (try simp only [Act.put, List.setIfInBounds_toArray, List.set_cons_zero, List.set_cons_succ])
  refine wpAnyL_done (by kernel_rfl) ?_ _
  have hbx : b < x.blocks.length := by omega
  obtain ⟨y, hy⟩ : ∃ y, x.blocks[b]? = some y := ⟨_, List.getElem?_eq_getElem hbx⟩
  have HB8 := Lib.hid (HU8.out.bt hul HX.out HJ.out hy rfl HGB8.out)
  have HB9 := Lib.hid (HB8.out.later (Below.refl w8.heap.size w8).drew)
  clear HP HU6 HU7 HU8 HGB HGB8 hy hb0 hb1 hbx HB8 HJ HX HSX
  go_upto_region 4 with fail
  refine wp_region_L (S := fun W : World => W.cell? ⟨g, j * 3 + 1, none⟩ = some (Value.int .i64 x.regs) ∧ W.cell? ⟨g, j * 3 + 2, none⟩ = some (Value.slice (some ⟨gb, 0, none⟩) x.blocks.length bc)) (by kernel_rfl) ?_
  have hHeld : (fun W : World => W.cell? ⟨g, j * 3 + 1, none⟩ = some (Value.int .i64 x.regs) ∧ W.cell? ⟨g, j * 3 + 2, none⟩ = some (Value.slice (some ⟨gb, 0, none⟩) x.blocks.length bc)) _ := ⟨HB9.out.code.2.1, HB9.out.code.2.2.1⟩
  generalize w8.drew = w9 at HB9 hHeld ⊢
  refine wpAnyL_take 11 (i := 0) (oi := ⟨some 30, _, _, _, _, _⟩) (v := ?_) rfl (by kernel_rfl) (by kernel_rfl) (by kernel_rfl) (by kernel_rfl) (fun _ _ _ h => h) (Or.inl ⟨by rfl, ?_⟩) hHeld ?_
  rotate_left
  · (intro w hSw; (try dsimp only at hSw); go_simp; all_goals (try with_reducible rfl))
  (try simp only [Act.put, List.setIfInBounds_toArray, List.set_cons_zero, List.set_cons_succ])
  refine wpAnyL_take 2 (i := 1) (oi := ⟨some 31, _, _, _, _, _⟩) (v := ?_) rfl (by kernel_rfl) (by kernel_rfl) (by kernel_rfl) (by kernel_rfl) (fun _ _ _ h => h) (Or.inl ⟨by rfl, ?_⟩) hHeld ?_
  rotate_left
  · (intro w hSw; (try dsimp only at hSw); go_simp; all_goals (try with_reducible rfl))
  (try simp only [Act.put, List.setIfInBounds_toArray, List.set_cons_zero, List.set_cons_succ])
  refine wpAnyL_take 3 (i := 2) (oi := ⟨some 32, _, _, _, _, _⟩) (v := ?_) rfl (by kernel_rfl) (by kernel_rfl) (by kernel_rfl) (by kernel_rfl) (fun _ _ _ h => h) (Or.inl ⟨by rfl, ?_⟩) hHeld ?_
  rotate_left
  · (intro w hSw; (try dsimp only at hSw); go_simp; all_goals (try with_reducible rfl))
  (try simp only [Act.put, List.setIfInBounds_toArray, List.set_cons_zero, List.set_cons_succ])
  refine wpAnyL_take 4 (i := 3) (oi := ⟨some 33, _, _, _, _, _⟩) (v := ?_) rfl (by kernel_rfl) (by kernel_rfl) (by kernel_rfl) (by kernel_rfl) (fun _ _ _ h => h) (Or.inl ⟨by rfl, ?_⟩) hHeld ?_
  rotate_left
  · (intro w hSw; (try dsimp only at hSw); go_simp; all_goals (try with_reducible rfl))
  (try simp only [Act.put, List.setIfInBounds_toArray, List.set_cons_zero, List.set_cons_succ])
  refine wpAnyL_take 10 (i := 4) (oi := ⟨some 34, _, _, _, _, _⟩) (v := ?_) rfl (by kernel_rfl) (by kernel_rfl) (by kernel_rfl) (by kernel_rfl) (fun _ _ _ h => h) (Or.inl ⟨by rfl, ?_⟩) hHeld ?_
  rotate_left
  · (intro w hSw; (try dsimp only at hSw); go_simp; all_goals (try with_reducible rfl))
  (try simp only [Act.put, List.setIfInBounds_toArray, List.set_cons_zero, List.set_cons_succ])
  refine wpAnyL_take 6 (i := 5) (oi := ⟨some 35, _, _, _, _, _⟩) (v := ?_) rfl (by kernel_rfl) (by kernel_rfl) (by kernel_rfl) (by kernel_rfl) (fun _ _ _ h => h) (Or.inl ⟨by rfl, ?_⟩) hHeld ?_
  rotate_left
  · (intro w hSw; (try dsimp only at hSw); go_simp; all_goals (try with_reducible rfl))
  (try simp only [Act.put, List.setIfInBounds_toArray, List.set_cons_zero, List.set_cons_succ])
  refine wpAnyL_take 7 (i := 6) (oi := ⟨some 36, _, _, _, _, _⟩) (v := ?_) rfl (by kernel_rfl) (by kernel_rfl) (by kernel_rfl) (by kernel_rfl) (fun _ _ _ h => h) (Or.inl ⟨by rfl, ?_⟩) hHeld ?_
  rotate_left
  · (intro w hSw; (try dsimp only at hSw); go_simp; all_goals (try with_reducible rfl))
  (try simp only [Act.put, List.setIfInBounds_toArray, List.set_cons_zero, List.set_cons_succ])
  refine wpAnyL_take 8 (i := 7) (oi := ⟨some 37, _, _, _, _, _⟩) (v := ?_) rfl (by kernel_rfl) (by kernel_rfl) (by kernel_rfl) (by kernel_rfl) (fun _ _ _ h => h) (Or.inl ⟨by rfl, ?_⟩) hHeld ?_
  rotate_left
  · (intro w hSw; (try dsimp only at hSw); go_simp; all_goals (try with_reducible rfl))
  (try simp only [Act.put, List.setIfInBounds_toArray, List.set_cons_zero, List.set_cons_succ])
  refine wpAnyL_take 9 (i := 8) (oi := ⟨some 38, _, _, _, _, _⟩) (v := ?_) rfl (by kernel_rfl) (by kernel_rfl) (by kernel_rfl) (by kernel_rfl) (fun _ _ _ h => h) (Or.inl ⟨by rfl, ?_⟩) hHeld ?_
  rotate_left
  · (intro w hSw; (try dsimp only at hSw); go_simp; all_goals (try with_reducible rfl))
  (try simp only [Act.put, List.setIfInBounds_toArray, List.set_cons_zero, List.set_cons_succ])
  refine wpAnyL_take 10 (i := 9) (oi := ⟨some 39, _, _, _, _, _⟩) (v := ?_) rfl (by kernel_rfl) (by kernel_rfl) (by kernel_rfl) (by kernel_rfl) (fun _ _ _ h => h) (Or.inl ⟨by rfl, ?_⟩) hHeld ?_
  rotate_left
  · (intro w hSw; (try dsimp only at hSw); go_simp; all_goals (try with_reducible rfl))
  (try simp only [Act.put, List.setIfInBounds_toArray, List.set_cons_zero, List.set_cons_succ])
  refine wpAnyL_ready (rs := [10]) (by kernel_rfl) (by simp) ?_
  refine AllReadyL.cons (o := ⟨some 40, _, _, _, _, _⟩) rfl (fun K hK => ?_) AllReadyL.nil
  go_simp
  have HBA := Lib.hid (show Below w9.heap.size w9 (w9.alloc (.cells #[.int .i64 (-1), .int .i64 x.regs, .int .i64 (x.blocks.length : Int), .int .i64 0, .int .i64 1] 3)) from (Below.refl _ _).alloc (Nat.le_refl _) _)
  have HNM := Lib.hid (numR (HB9.out.later HBA.out).un.rd hrl (by omega) (g := w9.heap.size) (n := 5) (c := 5) (xs := [-1, x.regs, (x.blocks.length : Int), 0, 1]) ⟨rfl, rowAt_of_own (World.ownsRow_lit (base := 0) (size := 1) w9 _ 5 (Nat.zero_le _) (by decide) rfl)⟩ (by have := HB9.out.un.lt; have := HB9.out.un.lo; omega) (by omega))
  have hHeld2 : (fun W : World => W.cell? ⟨g, j * 3 + 1, none⟩ = some (Value.int .i64 x.regs) ∧ W.cell? ⟨g, j * 3 + 2, none⟩ = some (Value.slice (some ⟨gb, 0, none⟩) x.blocks.length bc)) _ := ⟨(HB9.out.later HBA.out).code.2.1, (HB9.out.later HBA.out).code.2.2.1⟩
  refine hK.out _ _ (fun _ => hHeld2) ?_
  clear hK K hHeld
  have hHeld := hHeld2
  clear hHeld2
  (try simp only [Act.put, List.setIfInBounds_toArray, List.set_cons_zero, List.set_cons_succ])
  refine wpAnyL_ready (rs := [11]) (by kernel_rfl) (by simp) ?_
  refine AllReadyL.cons (o := ⟨some 41, _, _, _, _, _⟩) rfl (fun K hK => ?_) AllReadyL.nil
  go_simp
  go_at_call 25
  refine HNM.out.mono ?_
  rintro e w10 ⟨bad, rfl, hbad, hR10, hg10⟩
  have HB10 := Lib.hid ((HB9.out.later HBA.out).drew hg10 hR10)
  clear hbad hR10 hg10
  have hHeld2 : (fun W : World => W.cell? ⟨g, j * 3 + 1, none⟩ = some (Value.int .i64 x.regs) ∧ W.cell? ⟨g, j * 3 + 2, none⟩ = some (Value.slice (some ⟨gb, 0, none⟩) x.blocks.length bc)) _ := ⟨HB10.out.code.2.1, HB10.out.code.2.2.1⟩
  refine hK.out _ _ (fun _ => hHeld2) ?_
  clear hK K hHeld
  have hHeld := hHeld2
  clear hHeld2
  (try simp only [Act.put, List.setIfInBounds_toArray, List.set_cons_zero, List.set_cons_succ])
  refine wpAnyL_ready (rs := [12]) (by kernel_rfl) (by simp) ?_
  refine AllReadyL.cons (o := ⟨some 6, _, _, _, _, _⟩) rfl (fun K hK => ?_) AllReadyL.nil
  go_simp
  refine hK.out _ _ (lastL (by kernel_rfl)) ?_
  clear hK K hHeld
  (try simp only [Act.put, List.setIfInBounds_toArray, List.set_cons_zero, List.set_cons_succ])
  refine wpAnyL_done (by kernel_rfl) ?_ _
  clear HNM HBA HB9
  go_wp2_with fail
  refine (pickR HB10.out.un.rd hrl (by omega) (n := 32) (by omega)).mono ?_
  rintro e w11 ⟨v, rfl, hv, hR11, hg11⟩
  have HB11 := Lib.hid ((HB10.out.drew hg11 hR11).more (K' := K + 1350) (by omega))
  clear hR11 hg11 HB10
  by_cases ev0 : v = 0
  · have dv0 : (v == 0) = true := by rw [beq_iff_eq]; omega
    go_wp2_with fail
    refine (pickR HB11.out.un.rd hrl (by omega) (n := 5) (by omega)).mono ?_
    rintro e w12 ⟨v5, rfl, hv5, hR12, hg12⟩
    have HB12 := Lib.hid (HB11.out.drew hg12 hR12)
    obtain ⟨q0, q1, q2⟩ := HB12.out.putJ v5
    have HE := Lib.hid q2
    clear q2 hv5 hR12 hg12
    go_upto_region 26 with fail
    generalize w12.setCell ⟨gb, b * 5 + 2, none⟩ (.int .i64 v5) = w99 at HE ⊢
    clear q0 q1
    obtain ⟨us9, ua9, uc9, S9, hE9⟩ := HE.out
    have HE9 := Lib.hid hE9
    have x0 := cell_of_row _ _ 0 _ _ _ hE9.1.u
    have r0 := cell_of_row _ _ 0 _ _ _ hE9.1.r
    have y0 := frozen_of_row _ _ 0 _ _ hE9.1.r
    simp only [List.getElem?_toArray, List.getElem?_cons_zero, List.getElem?_cons_succ] at x0 r0
    clear hE9 HE
    go_wp2
    refine bodyPost_ret (results_cell_row rfl _ _ rb 25 #[.slice ua9 us9.length uc9] (0, 0) _ rfl ?_ Try.underlying25 rfl (by kernel_rfl)) rfl ?_
    · exact (heap_setCell_same w99 rb 0 _ _ _ HE9.out.1.r).trans rfl
    · exact BentE.fin HE9.out (turned_store w99 rb 0 _) (by omega)
  by_cases ev1 : v = 1
  · have dv0 : (v == 0) = false := by rw [beq_eq_false_iff_ne]; omega
    have dv1 : (v == 1) = true := by rw [beq_iff_eq]; omega
    by_cases hn : 0 < y.nx.length
    · have hni : (y.nx.length : Int) > 0 := by omega
      obtain ⟨gn, nc, v0, e4, en, fn, hE⟩ := HB11.out.putN hn
      have HE := Lib.hid (hE bad)
      clear hE
      go_upto_region 26 with fail
      generalize w11.setCell ⟨gn, 0, none⟩ (.int .i64 bad) = w99 at HE ⊢
      clear e4 en fn hni
      obtain ⟨us9, ua9, uc9, S9, hE9⟩ := HE.out
      have HE9 := Lib.hid hE9
      have x0 := cell_of_row _ _ 0 _ _ _ hE9.1.u
      have r0 := cell_of_row _ _ 0 _ _ _ hE9.1.r
      have y0 := frozen_of_row _ _ 0 _ _ hE9.1.r
      simp only [List.getElem?_toArray, List.getElem?_cons_zero, List.getElem?_cons_succ] at x0 r0
      clear hE9 HE
      go_wp2
      refine bodyPost_ret (results_cell_row rfl _ _ rb 25 #[.slice ua9 us9.length uc9] (0, 0) _ rfl ?_ Try.underlying25 rfl (by kernel_rfl)) rfl ?_
      · exact (heap_setCell_same w99 rb 0 _ _ _ HE9.out.1.r).trans rfl
      · exact BentE.fin HE9.out (turned_store w99 rb 0 _) (by omega)
    · have hni : ¬ ((y.nx.length : Int) > 0) := by omega
      obtain ⟨pa, pc, ia, ic, na, nc, e0, e1, e4⟩ := HB11.out.lists
      have HE := Lib.hid HB11.out.same
      go_upto_region 26 with fail
      generalize w11 = w99 at HE ⊢
      clear e0 e1 e4 hni
      obtain ⟨us9, ua9, uc9, S9, hE9⟩ := HE.out
      have HE9 := Lib.hid hE9
      have x0 := cell_of_row _ _ 0 _ _ _ hE9.1.u
      have r0 := cell_of_row _ _ 0 _ _ _ hE9.1.r
      have y0 := frozen_of_row _ _ 0 _ _ hE9.1.r
      simp only [List.getElem?_toArray, List.getElem?_cons_zero, List.getElem?_cons_succ] at x0 r0
      clear hE9 HE
      go_wp2
      refine bodyPost_ret (results_cell_row rfl _ _ rb 25 #[.slice ua9 us9.length uc9] (0, 0) _ rfl ?_ Try.underlying25 rfl (by kernel_rfl)) rfl ?_
      · exact (heap_setCell_same w99 rb 0 _ _ _ HE9.out.1.r).trans rfl
      · exact BentE.fin HE9.out (turned_store w99 rb 0 _) (by omega)
  by_cases ev2 : v = 2
  · have dv0 : (v == 0) = false := by rw [beq_eq_false_iff_ne]; omega
    have dv1 : (v == 1) = false := by rw [beq_eq_false_iff_ne]; omega
    have dv2 : (v == 2) = true := by rw [beq_iff_eq]; omega
    obtain ⟨q0, q1, q2⟩ := HB11.out.putO bad
    have HE := Lib.hid q2
    clear q2
    go_upto_region 26 with fail
    generalize w11.setCell ⟨gb, b * 5 + 3, none⟩ (.int .i64 bad) = w99 at HE ⊢
    clear q0 q1
    obtain ⟨us9, ua9, uc9, S9, hE9⟩ := HE.out
    have HE9 := Lib.hid hE9
    have x0 := cell_of_row _ _ 0 _ _ _ hE9.1.u
    have r0 := cell_of_row _ _ 0 _ _ _ hE9.1.r
    have y0 := frozen_of_row _ _ 0 _ _ hE9.1.r
    simp only [List.getElem?_toArray, List.getElem?_cons_zero, List.getElem?_cons_succ] at x0 r0
    clear hE9 HE
    go_wp2
    refine bodyPost_ret (results_cell_row rfl _ _ rb 25 #[.slice ua9 us9.length uc9] (0, 0) _ rfl ?_ Try.underlying25 rfl (by kernel_rfl)) rfl ?_
    · exact (heap_setCell_same w99 rb 0 _ _ _ HE9.out.1.r).trans rfl
    · exact BentE.fin HE9.out (turned_store w99 rb 0 _) (by omega)
  by_cases ev3 : v = 3
  · have dv0 : (v == 0) = false := by rw [beq_eq_false_iff_ne]; omega
    have dv1 : (v == 1) = false := by rw [beq_eq_false_iff_ne]; omega
    have dv2 : (v == 2) = false := by rw [beq_eq_false_iff_ne]; omega
    have dv3 : (v == 3) = true := by rw [beq_iff_eq]; omega
    by_cases hn : 0 < y.ins.length
    · have hni : (y.ins.length : Int) > 0 := by omega
      obtain ⟨gi, ic, v1, v3, e1, ⟨en, fn, hE⟩, -⟩ := HB11.out.putIns hn
      have HE := Lib.hid (hE bad)
      clear hE
      go_upto_region 26 with fail
      generalize w11.setCell ⟨gi, 1, none⟩ (.int .i64 bad) = w99 at HE ⊢
      clear e1 en fn hni
      obtain ⟨us9, ua9, uc9, S9, hE9⟩ := HE.out
      have HE9 := Lib.hid hE9
      have x0 := cell_of_row _ _ 0 _ _ _ hE9.1.u
      have r0 := cell_of_row _ _ 0 _ _ _ hE9.1.r
      have y0 := frozen_of_row _ _ 0 _ _ hE9.1.r
      simp only [List.getElem?_toArray, List.getElem?_cons_zero, List.getElem?_cons_succ] at x0 r0
      clear hE9 HE
      go_wp2
      refine bodyPost_ret (results_cell_row rfl _ _ rb 25 #[.slice ua9 us9.length uc9] (0, 0) _ rfl ?_ Try.underlying25 rfl (by kernel_rfl)) rfl ?_
      · exact (heap_setCell_same w99 rb 0 _ _ _ HE9.out.1.r).trans rfl
      · exact BentE.fin HE9.out (turned_store w99 rb 0 _) (by omega)
    · have hni : ¬ ((y.ins.length : Int) > 0) := by omega
      obtain ⟨pa, pc, ia, ic, na, nc, e0, e1, e4⟩ := HB11.out.lists
      have HE := Lib.hid HB11.out.same
      go_upto_region 26 with fail
      generalize w11 = w99 at HE ⊢
      clear e0 e1 e4 hni
      obtain ⟨us9, ua9, uc9, S9, hE9⟩ := HE.out
      have HE9 := Lib.hid hE9
      have x0 := cell_of_row _ _ 0 _ _ _ hE9.1.u
      have r0 := cell_of_row _ _ 0 _ _ _ hE9.1.r
      have y0 := frozen_of_row _ _ 0 _ _ hE9.1.r
      simp only [List.getElem?_toArray, List.getElem?_cons_zero, List.getElem?_cons_succ] at x0 r0
      clear hE9 HE
      go_wp2
      refine bodyPost_ret (results_cell_row rfl _ _ rb 25 #[.slice ua9 us9.length uc9] (0, 0) _ rfl ?_ Try.underlying25 rfl (by kernel_rfl)) rfl ?_
      · exact (heap_setCell_same w99 rb 0 _ _ _ HE9.out.1.r).trans rfl
      · exact BentE.fin HE9.out (turned_store w99 rb 0 _) (by omega)
  by_cases ev4 : v = 4
  · have dv0 : (v == 0) = false := by rw [beq_eq_false_iff_ne]; omega
    have dv1 : (v == 1) = false := by rw [beq_eq_false_iff_ne]; omega
    have dv2 : (v == 2) = false := by rw [beq_eq_false_iff_ne]; omega
    have dv3 : (v == 3) = false := by rw [beq_eq_false_iff_ne]; omega
    have dv4 : (v == 4) = true := by rw [beq_iff_eq]; omega
    by_cases hn : 0 < y.ins.length
    · have hni : (y.ins.length : Int) > 0 := by omega
      have HB12 := Lib.hid (HB11.out.later (Below.refl w11.heap.size w11).drew)
      obtain ⟨gi, ic, n, xs, aa, ac, e1, e2, hn44, hown, hcl⟩ := HB12.out.addArg hn
      have HC := Lib.hid (And.intro e1 e2)
      have HOW := Lib.hid hown
      have HCL := Lib.hid hcl
      obtain ⟨pa, pc, ia', ic', na, nc, e0', e1', e4'⟩ := HB11.out.lists
      clear e1 e2 hown hcl
      go_upto_region 18 with fail
      clear e0' e1' e4'
      refine wp_region_L (S := fun W : World => W.cell? ⟨gb, b * 5 + 1, none⟩ = some (Value.slice (some ⟨gi, 0, none⟩) y.ins.length ic) ∧ W.cell? ⟨gi, 2, none⟩ = some (Value.slice aa n ac)) (by kernel_rfl) ?_
      have hHeld : (fun W : World => W.cell? ⟨gb, b * 5 + 1, none⟩ = some (Value.slice (some ⟨gi, 0, none⟩) y.ins.length ic) ∧ W.cell? ⟨gi, 2, none⟩ = some (Value.slice aa n ac)) _ := HC.out
      generalize w11.drew = w12 at HB12 HC HOW HCL hHeld ⊢
      refine wpAnyL_take 1 (i := 0) (oi := ⟨some 94, _, _, _, _, _⟩) (v := ?_) rfl (by kernel_rfl) (by kernel_rfl) (by kernel_rfl) (by kernel_rfl) (fun _ _ _ h => h) (Or.inl ⟨by rfl, ?_⟩) hHeld ?_
      rotate_left
      · (intro w hSw; (try dsimp only at hSw); go_simp; all_goals (try with_reducible rfl))
      (try simp only [Act.put, List.setIfInBounds_toArray, List.set_cons_zero, List.set_cons_succ])
      refine wpAnyL_take 2 (i := 1) (oi := ⟨some 95, _, _, _, _, _⟩) (v := ?_) rfl (by kernel_rfl) (by kernel_rfl) (by kernel_rfl) (by kernel_rfl) (fun _ _ _ h => h) (Or.inl ⟨by rfl, ?_⟩) hHeld ?_
      rotate_left
      · (intro w hSw; (try dsimp only at hSw); go_simp; all_goals (try with_reducible rfl))
      (try simp only [Act.put, List.setIfInBounds_toArray, List.set_cons_zero, List.set_cons_succ])
      refine wpAnyL_take 3 (i := 2) (oi := ⟨some 96, _, _, _, _, _⟩) (v := ?_) rfl (by kernel_rfl) (by kernel_rfl) (by kernel_rfl) (by kernel_rfl) (fun _ _ _ h => h) (Or.inl ⟨by rfl, ?_⟩) hHeld ?_
      rotate_left
      · (intro w hSw; (try dsimp only at hSw); go_simp; all_goals (try with_reducible rfl))
      (try simp only [Act.put, List.setIfInBounds_toArray, List.set_cons_zero, List.set_cons_succ])
      refine wpAnyL_take 14 (i := 3) (oi := ⟨some 97, _, _, _, _, _⟩) (v := ?_) rfl (by kernel_rfl) (by kernel_rfl) (by kernel_rfl) (by kernel_rfl) (fun _ _ _ h => h) (Or.inl ⟨by rfl, ?_⟩) hHeld ?_
      rotate_left
      · (intro w hSw; (try dsimp only at hSw); go_simp; all_goals (try with_reducible rfl))
      (try simp only [Act.put, List.setIfInBounds_toArray, List.set_cons_zero, List.set_cons_succ])
      refine wpAnyL_take 5 (i := 4) (oi := ⟨some 98, _, _, _, _, _⟩) (v := ?_) rfl (by kernel_rfl) (by kernel_rfl) (by kernel_rfl) (by kernel_rfl) (fun _ _ _ h => h) (Or.inl ⟨by rfl, ?_⟩) hHeld ?_
      rotate_left
      · (intro w hSw; (try dsimp only at hSw); go_simp; all_goals (try with_reducible rfl))
      (try simp only [Act.put, List.setIfInBounds_toArray, List.set_cons_zero, List.set_cons_succ])
      refine wpAnyL_take 6 (i := 5) (oi := ⟨some 99, _, _, _, _, _⟩) (v := ?_) rfl (by kernel_rfl) (by kernel_rfl) (by kernel_rfl) (by kernel_rfl) (fun _ _ _ h => h) (Or.inl ⟨by rfl, ?_⟩) hHeld ?_
      rotate_left
      · (intro w hSw; (try dsimp only at hSw); go_simp; all_goals (try with_reducible rfl))
      (try simp only [Act.put, List.setIfInBounds_toArray, List.set_cons_zero, List.set_cons_succ])
      refine wpAnyL_take 7 (i := 6) (oi := ⟨some 100, _, _, _, _, _⟩) (v := ?_) rfl (by kernel_rfl) (by kernel_rfl) (by kernel_rfl) (by kernel_rfl) (fun _ _ _ h => h) (Or.inl ⟨by rfl, ?_⟩) hHeld ?_
      rotate_left
      · (intro w hSw; (try dsimp only at hSw); go_simp; all_goals (try with_reducible rfl))
      (try simp only [Act.put, List.setIfInBounds_toArray, List.set_cons_zero, List.set_cons_succ])
      refine wpAnyL_take 8 (i := 7) (oi := ⟨some 101, _, _, _, _, _⟩) (v := ?_) rfl (by kernel_rfl) (by kernel_rfl) (by kernel_rfl) (by kernel_rfl) (fun _ _ _ h => h) (Or.inl ⟨by rfl, ?_⟩) hHeld ?_
      rotate_left
      · (intro w hSw; (try dsimp only at hSw); go_simp; all_goals (try with_reducible rfl))
      (try simp only [Act.put, List.setIfInBounds_toArray, List.set_cons_zero, List.set_cons_succ])
      refine wpAnyL_take 9 (i := 8) (oi := ⟨some 102, _, _, _, _, _⟩) (v := ?_) rfl (by kernel_rfl) (by kernel_rfl) (by kernel_rfl) (by kernel_rfl) (fun _ _ _ h => h) (Or.inl ⟨by rfl, ?_⟩) hHeld ?_
      rotate_left
      · (intro w hSw; (try dsimp only at hSw); go_simp; all_goals (try with_reducible rfl))
      (try simp only [Act.put, List.setIfInBounds_toArray, List.set_cons_zero, List.set_cons_succ])
      refine wpAnyL_take 10 (i := 9) (oi := ⟨some 103, _, _, _, _, _⟩) (v := ?_) rfl (by kernel_rfl) (by kernel_rfl) (by kernel_rfl) (by kernel_rfl) (fun _ _ _ h => h) (Or.inl ⟨by rfl, ?_⟩) hHeld ?_
      rotate_left
      · (intro w hSw; (try dsimp only at hSw); go_simp; all_goals (try with_reducible rfl))
      (try simp only [Act.put, List.setIfInBounds_toArray, List.set_cons_zero, List.set_cons_succ])
      refine wpAnyL_take 13 (i := 10) (oi := ⟨some 104, _, _, _, _, _⟩) (v := ?_) rfl (by kernel_rfl) (by kernel_rfl) (by kernel_rfl) (by kernel_rfl) (fun _ _ _ h => h) (Or.inl ⟨by rfl, ?_⟩) hHeld ?_
      rotate_left
      · (intro w hSw; (try dsimp only at hSw); go_simp; all_goals (try with_reducible rfl))
      (try simp only [Act.put, List.setIfInBounds_toArray, List.set_cons_zero, List.set_cons_succ])
      refine wpAnyL_take 12 (i := 11) (oi := ⟨some 105, _, _, _, _, _⟩) (v := ?_) rfl (by kernel_rfl) (by kernel_rfl) (by kernel_rfl) (by kernel_rfl) (fun _ _ _ h => h) (Or.inl ⟨by rfl, ?_⟩) hHeld ?_
      rotate_left
      · (intro w hSw; (try dsimp only at hSw); go_simp; all_goals (try with_reducible rfl))
      (try simp only [Act.put, List.setIfInBounds_toArray, List.set_cons_zero, List.set_cons_succ])
      refine wpAnyL_ready (rs := [12]) (by kernel_rfl) (by simp) ?_
      refine AllReadyL.cons (o := ⟨some 106, _, _, _, _, _⟩) rfl (fun K hK => ?_) AllReadyL.nil
      go_simp
      have HBA := Lib.hid (show Below w12.heap.size w12 (w12.alloc (.cells #[.int .i64 bad] 3)) from (Below.refl _ _).alloc (Nat.le_refl _) _)
      have hHeld2 : (fun W : World => W.cell? ⟨gb, b * 5 + 1, none⟩ = some (Value.slice (some ⟨gi, 0, none⟩) y.ins.length ic) ∧ W.cell? ⟨gi, 2, none⟩ = some (Value.slice aa n ac)) _ := ⟨cell_later HBA.out HC.out.1, cell_later HBA.out HC.out.2⟩
      refine hK.out _ _ (fun _ => hHeld2) ?_
      clear hK K hHeld
      have hHeld := hHeld2
      clear hHeld2
      (try simp only [Act.put, List.setIfInBounds_toArray, List.set_cons_zero, List.set_cons_succ])
      refine wpAnyL_ready (rs := [13]) (by kernel_rfl) (by simp) ?_
      refine AllReadyL.cons (o := ⟨some 107, _, _, _, _, _⟩) rfl (fun K hK => ?_) AllReadyL.nil
      refine step_app_ints rfl (.tmp 104) (.tmp 106) rfl 0 _ n _ rfl (ownsRow_below HOW.out HBA.out) _ 1 1 [bad] rfl rfl (rowAt_one _ _ _) (by rintro ⟨⟩) (by omega) (Nat.zero_le _) ?_
      intro a9 c9 w13 hown9 hg9 hlies9
      have HP9 := Lib.hid (HCL.out _ _ a9 c9 bad HBA.out hown9 hg9 hlies9)
      clear hown9 hg9 hlies9
      have hHeld2 : (fun W : World => W.cell? ⟨gb, b * 5 + 1, none⟩ = some (Value.slice (some ⟨gi, 0, none⟩) y.ins.length ic) ∧ W.cell? ⟨gi, 2, none⟩ = some (Value.slice aa n ac)) _ := HP9.out.1
      refine hK.out _ _ (fun _ => hHeld2) ?_
      clear hK K hHeld
      have hHeld := hHeld2
      clear hHeld2
      (try simp only [Act.put, List.setIfInBounds_toArray, List.set_cons_zero, List.set_cons_succ])
      refine wpAnyL_take 15 (i := 14) (oi := ⟨some 108, _, _, _, _, _⟩) (v := ?_) rfl (by kernel_rfl) (by kernel_rfl) (by kernel_rfl) (by kernel_rfl) (fun _ _ _ h => h) (Or.inl ⟨by rfl, ?_⟩) hHeld ?_
      rotate_left
      · (intro w hSw; (try dsimp only at hSw); go_simp; all_goals (try with_reducible rfl))
      (try simp only [Act.put, List.setIfInBounds_toArray, List.set_cons_zero, List.set_cons_succ])
      refine wpAnyL_take 16 (i := 15) (oi := ⟨some 109, _, _, _, _, _⟩) (v := ?_) rfl (by kernel_rfl) (by kernel_rfl) (by kernel_rfl) (by kernel_rfl) (fun _ _ _ h => h) (Or.inl ⟨by rfl, ?_⟩) hHeld ?_
      rotate_left
      · (intro w hSw; (try dsimp only at hSw); go_simp; all_goals (try with_reducible rfl))
      (try simp only [Act.put, List.setIfInBounds_toArray, List.set_cons_zero, List.set_cons_succ])
      refine wpAnyL_ready (rs := [16]) (by kernel_rfl) (by simp) ?_
      refine AllReadyL.cons (o := ⟨none, _, _, _, _, _⟩) rfl (fun K hK => ?_) AllReadyL.nil
      have y0 := HP9.out.2.1
      have r0 := HP9.out.1.2
      go_simp
      clear y0 r0
      refine hK.out _ _ (lastL (by kernel_rfl)) ?_
      clear hK K hHeld
      (try simp only [Act.put, List.setIfInBounds_toArray, List.set_cons_zero, List.set_cons_succ])
      refine wpAnyL_done (by kernel_rfl) ?_ _
      have HE := Lib.hid HP9.out.2.2
      clear HP9 HBA HCL HOW HC HB12
      go_upto_region 26 with fail
      generalize w13.setCell ⟨gi, 2, none⟩ (.slice a9 (n + 1) c9) = w99 at HE ⊢
      clear hni
      obtain ⟨us9, ua9, uc9, S9, hE9⟩ := HE.out
      have HE9 := Lib.hid hE9
      have x0 := cell_of_row _ _ 0 _ _ _ hE9.1.u
      have r0 := cell_of_row _ _ 0 _ _ _ hE9.1.r
      have y0 := frozen_of_row _ _ 0 _ _ hE9.1.r
      simp only [List.getElem?_toArray, List.getElem?_cons_zero, List.getElem?_cons_succ] at x0 r0
      clear hE9 HE
      go_wp2
      refine bodyPost_ret (results_cell_row rfl _ _ rb 25 #[.slice ua9 us9.length uc9] (0, 0) _ rfl ?_ Try.underlying25 rfl (by kernel_rfl)) rfl ?_
      · exact (heap_setCell_same w99 rb 0 _ _ _ HE9.out.1.r).trans rfl
      · exact BentE.fin HE9.out (turned_store w99 rb 0 _) (by omega)
    · have hni : ¬ ((y.ins.length : Int) > 0) := by omega
      obtain ⟨pa, pc, ia, ic, na, nc, e0, e1, e4⟩ := HB11.out.lists
      have HE := Lib.hid HB11.out.same
      go_upto_region 26 with fail
      generalize w11 = w99 at HE ⊢
      clear e0 e1 e4 hni
      obtain ⟨us9, ua9, uc9, S9, hE9⟩ := HE.out
      have HE9 := Lib.hid hE9
      have x0 := cell_of_row _ _ 0 _ _ _ hE9.1.u
      have r0 := cell_of_row _ _ 0 _ _ _ hE9.1.r
      have y0 := frozen_of_row _ _ 0 _ _ hE9.1.r
      simp only [List.getElem?_toArray, List.getElem?_cons_zero, List.getElem?_cons_succ] at x0 r0
      clear hE9 HE
      go_wp2
      refine bodyPost_ret (results_cell_row rfl _ _ rb 25 #[.slice ua9 us9.length uc9] (0, 0) _ rfl ?_ Try.underlying25 rfl (by kernel_rfl)) rfl ?_
      · exact (heap_setCell_same w99 rb 0 _ _ _ HE9.out.1.r).trans rfl
      · exact BentE.fin HE9.out (turned_store w99 rb 0 _) (by omega)
  by_cases ev5 : v = 5
  · have dv0 : (v == 0) = false := by rw [beq_eq_false_iff_ne]; omega
    have dv1 : (v == 1) = false := by rw [beq_eq_false_iff_ne]; omega
    have dv2 : (v == 2) = false := by rw [beq_eq_false_iff_ne]; omega
    have dv3 : (v == 3) = false := by rw [beq_eq_false_iff_ne]; omega
    have dv4 : (v == 4) = false := by rw [beq_eq_false_iff_ne]; omega
    have dv5 : (v == 5) = true := by rw [beq_iff_eq]; omega
    have hba : Below w11.heap.size w11 (w11.alloc (.cells #[.int .i64 bad] 3)) := (Below.refl _ _).alloc (Nat.le_refl _) _
    have HB12 := Lib.hid (HB11.out.later hba)
    obtain ⟨lo0, hlo0⟩ : ∃ b, b = w11.heap.size := ⟨_, rfl⟩
    obtain ⟨pa, pc, cells, G, S1, e0, hrw, hp44, hcl⟩ := HB12.out.addP (lo0 := lo0) (fun q hq => by rw [hlo0]; exact (HB11.out.un.su q hq).2.1) (by rw [hlo0]; have := HB11.out.un.lt; exact ⟨this.1, this.2.1, this.2.2.1, by rw [World.size_alloc]; omega⟩)
    have HRW := Lib.hid hrw
    have HCL := Lib.hid hcl
    have HPK := Lib.hid (show PhiK (fun k => lo0 ≤ k) (w11.alloc (.cells #[.int .i64 bad] 3)) [.int .i64 0, .slice (some ⟨w11.heap.size, 0, none⟩) 1 1] ⟨0, [bad]⟩ from by
      rw [hlo0]
      exact ⟨_, _, rfl, World.ownsRow_lit (base := 0) (size := 1) w11 _ 1 (Nat.zero_le _) (by decide) rfl, fun k hk => by simp only [Value.ownBlock, Option.some.injEq] at hk; show w11.heap.size ≤ k; omega, rfl⟩)
    have HRA := Lib.hid (show RowAt ((w11.alloc (.cells #[.int .i64 bad] 3)).alloc (.cells #[.int .i64 0, .slice (some ⟨w11.heap.size, 0, none⟩) 1 1] 78)) (some ⟨w11.heap.size + 1, 0, none⟩) [.int .i64 0, .slice (some ⟨w11.heap.size, 0, none⟩) 1 1] from by
      have h := rowAt_cells (w11.alloc (.cells #[.int .i64 bad] 3)) [.int .i64 0, .slice (some ⟨w11.heap.size, 0, none⟩) 1 1] 78
      rw [World.size_alloc] at h
      exact h)
    obtain ⟨pa1, pc1, ia', ic', na, nc, e0', e1', e4'⟩ := HB11.out.lists
    have HEQ := Lib.hid (show pa1 = pa ∧ pc1 = pc from by
      have h1 := cell_later hba e0'
      rw [e0] at h1
      simp only [Option.some.injEq, Value.slice.injEq, true_and] at h1
      exact ⟨h1.1.symm, h1.2.symm⟩)
    clear hrw hcl hba e0
    obtain ⟨rfl, rfl⟩ := HEQ.out
    go_upto_region 26 with (at_builtin; refine app_phi rfl (.tmp 116) (.tmp 120) rfl 0 _ y.phis.length _ rfl (ownsRow_below HRW.out.own ((Below.refl _ _).alloc (Nat.le_refl _) _)) _ 1 [.int .i64 0, .slice (some ⟨w11.heap.size, 0, none⟩) 1 1] rfl HRA.out rfl (by intro u hu; (simp only [List.mem_cons, List.not_mem_nil, or_false] at hu); rcases hu with rfl | rfl <;> rfl) (by omega) (Nat.zero_le _) ?_; intro a9 c9 w13 hown9 hg9 hlies9; (have HP9 := Lib.hid (HCL.out _ _ a9 c9 _ ⟨0, [bad]⟩ ((Below.refl _ _).alloc (Nat.le_refl _) _) HPK.out (show [bad].length ≤ 7 by simp) hown9 hg9 hlies9)); (have t9 := HP9.out.1); (have z9 := HP9.out.2.1); clear hown9 hg9 hlies9)
    have HE := Lib.hid HP9.out.2.2
    generalize w13.setCell ⟨gb, b * 5, none⟩ (.slice a9 (y.phis.length + 1) c9) = w99 at HE ⊢
    clear t9 z9 HP9 e0' e1' e4' HRA HPK HCL HRW HB12 HEQ
    obtain ⟨us9, ua9, uc9, S9, hE9⟩ := HE.out
    have HE9 := Lib.hid hE9
    have x0 := cell_of_row _ _ 0 _ _ _ hE9.1.u
    have r0 := cell_of_row _ _ 0 _ _ _ hE9.1.r
    have y0 := frozen_of_row _ _ 0 _ _ hE9.1.r
    simp only [List.getElem?_toArray, List.getElem?_cons_zero, List.getElem?_cons_succ] at x0 r0
    clear hE9 HE
    go_wp2
    refine bodyPost_ret (results_cell_row rfl _ _ rb 25 #[.slice ua9 us9.length uc9] (0, 0) _ rfl ?_ Try.underlying25 rfl (by kernel_rfl)) rfl ?_
    · exact (heap_setCell_same w99 rb 0 _ _ _ HE9.out.1.r).trans rfl
    · exact BentE.fin HE9.out (turned_store w99 rb 0 _) (by omega)
  by_cases ev6 : v = 6
  · have dv0 : (v == 0) = false := by rw [beq_eq_false_iff_ne]; omega
    have dv1 : (v == 1) = false := by rw [beq_eq_false_iff_ne]; omega
    have dv2 : (v == 2) = false := by rw [beq_eq_false_iff_ne]; omega
    have dv3 : (v == 3) = false := by rw [beq_eq_false_iff_ne]; omega
    have dv4 : (v == 4) = false := by rw [beq_eq_false_iff_ne]; omega
    have dv5 : (v == 5) = false := by rw [beq_eq_false_iff_ne]; omega
    have dv6 : (v == 6) = true := by rw [beq_iff_eq]; omega
    have HB12 := Lib.hid (HB11.out.later (Below.refl w11.heap.size w11).drew)
    have HPK := Lib.hid (pickR HB12.out.un.rd hrl (by omega) (n := 2) (by omega))
    have hpar := (HB11.out.small x (List.mem_of_getElem? HB11.out.hx)).1
    go_upto_region 22 with fail
    refine wp_region_L (S := fun W : World => W.cell? ⟨g, j * 3, none⟩ = some (Value.int .i64 x.params) ∧ W.cell? ⟨g, j * 3 + 1, none⟩ = some (Value.int .i64 x.regs)) (by kernel_rfl) ?_
    have hHeld : (fun W : World => W.cell? ⟨g, j * 3, none⟩ = some (Value.int .i64 x.params) ∧ W.cell? ⟨g, j * 3 + 1, none⟩ = some (Value.int .i64 x.regs)) _ := ⟨HB12.out.code.1, HB12.out.code.2.1⟩
    generalize w11.drew = w12 at HB12 HPK hHeld ⊢
    refine wpAnyL_take 8 (i := 0) (oi := ⟨some 126, _, _, _, _, _⟩) (v := ?_) rfl (by kernel_rfl) (by kernel_rfl) (by kernel_rfl) (by kernel_rfl) (fun _ _ _ h => h) (Or.inl ⟨by rfl, ?_⟩) hHeld ?_
    rotate_left
    · (intro w hSw; (try dsimp only at hSw); go_simp; all_goals (try with_reducible rfl))
    (try simp only [Act.put, List.setIfInBounds_toArray, List.set_cons_zero, List.set_cons_succ])
    refine wpAnyL_take 2 (i := 1) (oi := ⟨some 127, _, _, _, _, _⟩) (v := ?_) rfl (by kernel_rfl) (by kernel_rfl) (by kernel_rfl) (by kernel_rfl) (fun _ _ _ h => h) (Or.inl ⟨by rfl, ?_⟩) hHeld ?_
    rotate_left
    · (intro w hSw; (try dsimp only at hSw); go_simp; all_goals (try with_reducible rfl))
    (try simp only [Act.put, List.setIfInBounds_toArray, List.set_cons_zero, List.set_cons_succ])
    refine wpAnyL_take 3 (i := 2) (oi := ⟨some 128, _, _, _, _, _⟩) (v := ?_) rfl (by kernel_rfl) (by kernel_rfl) (by kernel_rfl) (by kernel_rfl) (fun _ _ _ h => h) (Or.inl ⟨by rfl, ?_⟩) hHeld ?_
    rotate_left
    · (intro w hSw; (try dsimp only at hSw); go_simp; all_goals (try with_reducible rfl))
    (try simp only [Act.put, List.setIfInBounds_toArray, List.set_cons_zero, List.set_cons_succ])
    refine wpAnyL_take 4 (i := 3) (oi := ⟨some 129, _, _, _, _, _⟩) (v := ?_) rfl (by kernel_rfl) (by kernel_rfl) (by kernel_rfl) (by kernel_rfl) (fun _ _ _ h => h) (Or.inl ⟨by rfl, ?_⟩) hHeld ?_
    rotate_left
    · (intro w hSw; (try dsimp only at hSw); go_simp; all_goals (try with_reducible rfl))
    (try simp only [Act.put, List.setIfInBounds_toArray, List.set_cons_zero, List.set_cons_succ])
    refine wpAnyL_take 7 (i := 4) (oi := ⟨some 130, _, _, _, _, _⟩) (v := ?_) rfl (by kernel_rfl) (by kernel_rfl) (by kernel_rfl) (by kernel_rfl) (fun _ _ _ h => h) (Or.inl ⟨by rfl, ?_⟩) hHeld ?_
    rotate_left
    · (intro w hSw; (try dsimp only at hSw); go_simp; all_goals (try with_reducible rfl))
    (try simp only [Act.put, List.setIfInBounds_toArray, List.set_cons_zero, List.set_cons_succ])
    refine wpAnyL_take 6 (i := 5) (oi := ⟨some 131, _, _, _, _, _⟩) (v := ?_) rfl (by kernel_rfl) (by kernel_rfl) (by kernel_rfl) (by kernel_rfl) (fun _ _ _ h => h) (Or.inl ⟨by rfl, ?_⟩) hHeld ?_
    rotate_left
    · (intro w hSw; (try dsimp only at hSw); go_simp; all_goals (try with_reducible rfl))
    (try simp only [Act.put, List.setIfInBounds_toArray, List.set_cons_zero, List.set_cons_succ])
    refine wpAnyL_ready (rs := [6]) (by kernel_rfl) (by simp) ?_
    refine AllReadyL.cons (o := ⟨some 132, _, _, _, _, _⟩) rfl (fun K hK => ?_) AllReadyL.nil
    go_simp
    go_at_call 22
    refine HPK.out.mono ?_
    rintro e w13 ⟨v2, rfl, hv2, hR13, hg13⟩
    have HB13 := Lib.hid (HB12.out.drew hg13 hR13)
    have hwr := wrap_in (x.params + v2) (by omega)
    clear hv2 hR13 hg13
    have hHeld2 : (fun W : World => W.cell? ⟨g, j * 3, none⟩ = some (Value.int .i64 x.params) ∧ W.cell? ⟨g, j * 3 + 1, none⟩ = some (Value.int .i64 x.regs)) _ := ⟨HB13.out.code.1, HB13.out.code.2.1⟩
    refine hK.out _ _ (fun _ => hHeld2) ?_
    clear hK K hHeld
    have hHeld := hHeld2
    clear hHeld2
    (try simp only [Act.put, List.setIfInBounds_toArray, List.set_cons_zero, List.set_cons_succ])
    refine wpAnyL_take 10 (i := 7) (oi := ⟨some 133, _, _, _, _, _⟩) (v := ?_) rfl (by kernel_rfl) (by kernel_rfl) (by kernel_rfl) (by kernel_rfl) (fun _ _ _ h => h) (Or.inl ⟨by rfl, ?_⟩) hHeld ?_
    rotate_left
    · (intro w hSw; (try dsimp only at hSw); go_simp; all_goals (try with_reducible rfl))
    (try simp only [Act.put, List.setIfInBounds_toArray, List.set_cons_zero, List.set_cons_succ])
    refine wpAnyL_take 9 (i := 8) (oi := ⟨some 134, _, _, _, _, _⟩) (v := ?_) rfl (by kernel_rfl) (by kernel_rfl) (by kernel_rfl) (by kernel_rfl) (fun _ _ _ h => h) (Or.inl ⟨by rfl, ?_⟩) hHeld ?_
    rotate_left
    · (intro w hSw; (try dsimp only at hSw); go_simp; all_goals (try with_reducible rfl))
    (try simp only [Act.put, List.setIfInBounds_toArray, List.set_cons_zero, List.set_cons_succ])
    refine wpAnyL_take 10 (i := 9) (oi := ⟨some 135, _, _, _, _, _⟩) (v := ?_) rfl (by kernel_rfl) (by kernel_rfl) (by kernel_rfl) (by kernel_rfl) (fun _ _ _ h => h) (Or.inl ⟨by rfl, ?_⟩) hHeld ?_
    rotate_left
    · (intro w hSw; (try dsimp only at hSw); go_simp; all_goals (try with_reducible rfl))
    (try simp only [Act.put, List.setIfInBounds_toArray, List.set_cons_zero, List.set_cons_succ])
    refine wpAnyL_ready (rs := [10]) (by kernel_rfl) (by simp) ?_
    refine AllReadyL.cons (o := ⟨none, _, _, _, _, _⟩) rfl (fun K hK => ?_) AllReadyL.nil
    have y0 := HB13.out.code.2.2.2
    have r0 := HB13.out.code.2.1
    go_simp
    clear y0 r0
    refine hK.out _ _ (lastL (by kernel_rfl)) ?_
    clear hK K hHeld
    (try simp only [Act.put, List.setIfInBounds_toArray, List.set_cons_zero, List.set_cons_succ])
    refine wpAnyL_done (by kernel_rfl) ?_ _
    have HE := Lib.hid (HB13.out.putR (x.params + v2))
    clear HB12 HB13 HPK hpar
    go_upto_region 26 with fail
    generalize w13.setCell ⟨g, j * 3 + 1, none⟩ (.int .i64 (x.params + v2)) = w99 at HE ⊢
    clear hwr
    obtain ⟨us9, ua9, uc9, S9, hE9⟩ := HE.out
    have HE9 := Lib.hid hE9
    have x0 := cell_of_row _ _ 0 _ _ _ hE9.1.u
    have r0 := cell_of_row _ _ 0 _ _ _ hE9.1.r
    have y0 := frozen_of_row _ _ 0 _ _ hE9.1.r
    simp only [List.getElem?_toArray, List.getElem?_cons_zero, List.getElem?_cons_succ] at x0 r0
    clear hE9 HE
    go_wp2
    refine bodyPost_ret (results_cell_row rfl _ _ rb 25 #[.slice ua9 us9.length uc9] (0, 0) _ rfl ?_ Try.underlying25 rfl (by kernel_rfl)) rfl ?_
    · exact (heap_setCell_same w99 rb 0 _ _ _ HE9.out.1.r).trans rfl
    · exact BentE.fin HE9.out (turned_store w99 rb 0 _) (by omega)
  by_cases ev7 : v = 7
  · have dv0 : (v == 0) = false := by rw [beq_eq_false_iff_ne]; omega
    have dv1 : (v == 1) = false := by rw [beq_eq_false_iff_ne]; omega
    have dv2 : (v == 2) = false := by rw [beq_eq_false_iff_ne]; omega
    have dv3 : (v == 3) = false := by rw [beq_eq_false_iff_ne]; omega
    have dv4 : (v == 4) = false := by rw [beq_eq_false_iff_ne]; omega
    have dv5 : (v == 5) = false := by rw [beq_eq_false_iff_ne]; omega
    have dv6 : (v == 6) = false := by rw [beq_eq_false_iff_ne]; omega
    have dv7 : (v == 7) = true := by rw [beq_iff_eq]; omega
    by_cases hn : 0 < y.ins.length
    · have hni : (y.ins.length : Int) > 0 := by omega
      have HB12 := Lib.hid (HB11.out.later (Below.refl w11.heap.size w11).drew)
      obtain ⟨gi, ic, v1', v3', e1', -⟩ := HB11.out.putIns hn
      have HC := Lib.hid (cell_later (Below.refl w11.heap.size w11).drew e1')
      go_upto_region 25 with fail
      clear e1'
      refine wp_region_L (S := fun W : World => W.cell? ⟨gb, b * 5 + 1, none⟩ = some (Value.slice (some ⟨gi, 0, none⟩) y.ins.length ic)) (by kernel_rfl) ?_
      have hHeld : (fun W : World => W.cell? ⟨gb, b * 5 + 1, none⟩ = some (Value.slice (some ⟨gi, 0, none⟩) y.ins.length ic)) _ := HC.out
      generalize w11.drew = w12 at HB12 HC hHeld ⊢
      refine wpAnyL_take 1 (i := 0) (oi := ⟨some 144, _, _, _, _, _⟩) (v := ?_) rfl (by kernel_rfl) (by kernel_rfl) (by kernel_rfl) (by kernel_rfl) (fun _ _ _ h => h) (Or.inl ⟨by rfl, ?_⟩) hHeld ?_
      rotate_left
      · (intro w hSw; (try dsimp only at hSw); go_simp; all_goals (try with_reducible rfl))
      (try simp only [Act.put, List.setIfInBounds_toArray, List.set_cons_zero, List.set_cons_succ])
      refine wpAnyL_take 2 (i := 1) (oi := ⟨some 145, _, _, _, _, _⟩) (v := ?_) rfl (by kernel_rfl) (by kernel_rfl) (by kernel_rfl) (by kernel_rfl) (fun _ _ _ h => h) (Or.inl ⟨by rfl, ?_⟩) hHeld ?_
      rotate_left
      · (intro w hSw; (try dsimp only at hSw); go_simp; all_goals (try with_reducible rfl))
      (try simp only [Act.put, List.setIfInBounds_toArray, List.set_cons_zero, List.set_cons_succ])
      refine wpAnyL_take 3 (i := 2) (oi := ⟨some 146, _, _, _, _, _⟩) (v := ?_) rfl (by kernel_rfl) (by kernel_rfl) (by kernel_rfl) (by kernel_rfl) (fun _ _ _ h => h) (Or.inl ⟨by rfl, ?_⟩) hHeld ?_
      rotate_left
      · (intro w hSw; (try dsimp only at hSw); go_simp; all_goals (try with_reducible rfl))
      (try simp only [Act.put, List.setIfInBounds_toArray, List.set_cons_zero, List.set_cons_succ])
      refine wpAnyL_take 7 (i := 3) (oi := ⟨some 147, _, _, _, _, _⟩) (v := ?_) rfl (by kernel_rfl) (by kernel_rfl) (by kernel_rfl) (by kernel_rfl) (fun _ _ _ h => h) (Or.inl ⟨by rfl, ?_⟩) hHeld ?_
      rotate_left
      · (intro w hSw; (try dsimp only at hSw); go_simp; all_goals (try with_reducible rfl))
      (try simp only [Act.put, List.setIfInBounds_toArray, List.set_cons_zero, List.set_cons_succ])
      refine wpAnyL_take 6 (i := 4) (oi := ⟨some 148, _, _, _, _, _⟩) (v := ?_) rfl (by kernel_rfl) (by kernel_rfl) (by kernel_rfl) (by kernel_rfl) (fun _ _ _ h => h) (Or.inl ⟨by rfl, ?_⟩) hHeld ?_
      rotate_left
      · (intro w hSw; (try dsimp only at hSw); go_simp; all_goals (try with_reducible rfl))
      (try simp only [Act.put, List.setIfInBounds_toArray, List.set_cons_zero, List.set_cons_succ])
      refine wpAnyL_ready (rs := [5]) (by kernel_rfl) (by simp) ?_
      refine AllReadyL.cons (o := ⟨some 149, _, _, _, _, _⟩) rfl (fun K hK => ?_) AllReadyL.nil
      go_simp
      have HBA := Lib.hid (show Below w12.heap.size w12 (w12.alloc (.cells #[.int .i64 256, .int .i64 (-1), .int .i64 1] 3)) from (Below.refl _ _).alloc (Nat.le_refl _) _)
      have HNM := Lib.hid (numR (HB12.out.later HBA.out).un.rd hrl (by omega) (g := w12.heap.size) (n := 3) (c := 3) (xs := [256, -1, 1]) ⟨rfl, rowAt_of_own (World.ownsRow_lit (base := 0) (size := 1) w12 _ 3 (Nat.zero_le _) (by decide) rfl)⟩ (by have := HB12.out.un.lt; have := HB12.out.un.lo; omega) (by omega))
      have hHeld2 : (fun W : World => W.cell? ⟨gb, b * 5 + 1, none⟩ = some (Value.slice (some ⟨gi, 0, none⟩) y.ins.length ic)) _ := cell_later HBA.out HC.out
      refine hK.out _ _ (fun _ => hHeld2) ?_
      clear hK K hHeld
      have hHeld := hHeld2
      clear hHeld2
      (try simp only [Act.put, List.setIfInBounds_toArray, List.set_cons_zero, List.set_cons_succ])
      refine wpAnyL_ready (rs := [6]) (by kernel_rfl) (by simp) ?_
      refine AllReadyL.cons (o := ⟨some 150, _, _, _, _, _⟩) rfl (fun K hK => ?_) AllReadyL.nil
      go_simp
      go_at_call 25
      refine HNM.out.mono ?_
      rintro e w13 ⟨v9, rfl, hv9, hR13, hg13⟩
      have HB13 := Lib.hid ((HB12.out.later HBA.out).drew hg13 hR13)
      have HC13 := Lib.hid ((HB12.out.later HBA.out).keepI hg13 (cell_later HBA.out HC.out))
      clear hv9 hR13 hg13
      have hHeld2 : (fun W : World => W.cell? ⟨gb, b * 5 + 1, none⟩ = some (Value.slice (some ⟨gi, 0, none⟩) y.ins.length ic)) _ := HC13.out
      refine hK.out _ _ (fun _ => hHeld2) ?_
      clear hK K hHeld
      have hHeld := hHeld2
      clear hHeld2
      (try simp only [Act.put, List.setIfInBounds_toArray, List.set_cons_zero, List.set_cons_succ])
      refine wpAnyL_take 8 (i := 7) (oi := ⟨some 151, _, _, _, _, _⟩) (v := ?_) rfl (by kernel_rfl) (by kernel_rfl) (by kernel_rfl) (by kernel_rfl) (fun _ _ _ h => h) (Or.inl ⟨by rfl, ?_⟩) hHeld ?_
      rotate_left
      · (intro w hSw; (try dsimp only at hSw); go_simp; all_goals (try with_reducible rfl))
      (try simp only [Act.put, List.setIfInBounds_toArray, List.set_cons_zero, List.set_cons_succ])
      refine wpAnyL_take 9 (i := 8) (oi := ⟨some 152, _, _, _, _, _⟩) (v := ?_) rfl (by kernel_rfl) (by kernel_rfl) (by kernel_rfl) (by kernel_rfl) (fun _ _ _ h => h) (Or.inl ⟨by rfl, ?_⟩) hHeld ?_
      rotate_left
      · (intro w hSw; (try dsimp only at hSw); go_simp; all_goals (try with_reducible rfl))
      (try simp only [Act.put, List.setIfInBounds_toArray, List.set_cons_zero, List.set_cons_succ])
      refine wpAnyL_ready (rs := [9]) (by kernel_rfl) (by simp) ?_
      refine AllReadyL.cons (o := ⟨none, _, _, _, _, _⟩) rfl (fun K hK => ?_) AllReadyL.nil
      obtain ⟨gi2, ic2, v1, v3, e1, -, ⟨en, fn, hE⟩⟩ := HB13.out.putIns hn
      have hgi := HC13.out
      rw [e1] at hgi
      simp only [Option.some.injEq, Value.slice.injEq, Addr.mk.injEq, true_and, and_true] at hgi
      obtain ⟨rfl, rfl⟩ := hgi
      have HE := Lib.hid (hE v9)
      clear hE
      go_simp
      clear en fn e1
      refine hK.out _ _ (lastL (by kernel_rfl)) ?_
      clear hK K hHeld
      (try simp only [Act.put, List.setIfInBounds_toArray, List.set_cons_zero, List.set_cons_succ])
      refine wpAnyL_done (by kernel_rfl) ?_ _
      clear HBA HNM HC HC13 HB12 HB13
      go_upto_region 26 with fail
      generalize w13.setCell ⟨gi2, 3, none⟩ (.int .i64 v9) = w99 at HE ⊢
      clear hni
      obtain ⟨us9, ua9, uc9, S9, hE9⟩ := HE.out
      have HE9 := Lib.hid hE9
      have x0 := cell_of_row _ _ 0 _ _ _ hE9.1.u
      have r0 := cell_of_row _ _ 0 _ _ _ hE9.1.r
      have y0 := frozen_of_row _ _ 0 _ _ hE9.1.r
      simp only [List.getElem?_toArray, List.getElem?_cons_zero, List.getElem?_cons_succ] at x0 r0
      clear hE9 HE
      go_wp2
      refine bodyPost_ret (results_cell_row rfl _ _ rb 25 #[.slice ua9 us9.length uc9] (0, 0) _ rfl ?_ Try.underlying25 rfl (by kernel_rfl)) rfl ?_
      · exact (heap_setCell_same w99 rb 0 _ _ _ HE9.out.1.r).trans rfl
      · exact BentE.fin HE9.out (turned_store w99 rb 0 _) (by omega)
    · have hni : ¬ ((y.ins.length : Int) > 0) := by omega
      obtain ⟨pa, pc, ia, ic, na, nc, e0, e1, e4⟩ := HB11.out.lists
      have HE := Lib.hid HB11.out.same
      go_upto_region 26 with fail
      generalize w11 = w99 at HE ⊢
      clear e0 e1 e4 hni
      obtain ⟨us9, ua9, uc9, S9, hE9⟩ := HE.out
      have HE9 := Lib.hid hE9
      have x0 := cell_of_row _ _ 0 _ _ _ hE9.1.u
      have r0 := cell_of_row _ _ 0 _ _ _ hE9.1.r
      have y0 := frozen_of_row _ _ 0 _ _ hE9.1.r
      simp only [List.getElem?_toArray, List.getElem?_cons_zero, List.getElem?_cons_succ] at x0 r0
      clear hE9 HE
      go_wp2
      refine bodyPost_ret (results_cell_row rfl _ _ rb 25 #[.slice ua9 us9.length uc9] (0, 0) _ rfl ?_ Try.underlying25 rfl (by kernel_rfl)) rfl ?_
      · exact (heap_setCell_same w99 rb 0 _ _ _ HE9.out.1.r).trans rfl
      · exact BentE.fin HE9.out (turned_store w99 rb 0 _) (by omega)
  have dv0 : (v == 0) = false := by rw [beq_eq_false_iff_ne]; omega
  have dv1 : (v == 1) = false := by rw [beq_eq_false_iff_ne]; omega
  have dv2 : (v == 2) = false := by rw [beq_eq_false_iff_ne]; omega
  have dv3 : (v == 3) = false := by rw [beq_eq_false_iff_ne]; omega
  have dv4 : (v == 4) = false := by rw [beq_eq_false_iff_ne]; omega
  have dv5 : (v == 5) = false := by rw [beq_eq_false_iff_ne]; omega
  have dv6 : (v == 6) = false := by rw [beq_eq_false_iff_ne]; omega
  have dv7 : (v == 7) = false := by rw [beq_eq_false_iff_ne]; omega
  have HE := Lib.hid HB11.out.same
  go_upto_region 26 with fail
  generalize w11 = w99 at HE ⊢
  clear hv
  obtain ⟨us9, ua9, uc9, S9, hE9⟩ := HE.out
  have HE9 := Lib.hid hE9
  have x0 := cell_of_row _ _ 0 _ _ _ hE9.1.u
  have r0 := cell_of_row _ _ 0 _ _ _ hE9.1.r
  have y0 := frozen_of_row _ _ 0 _ _ hE9.1.r
  simp only [List.getElem?_toArray, List.getElem?_cons_zero, List.getElem?_cons_succ] at x0 r0
  clear hE9 HE
  go_wp2
  refine bodyPost_ret (results_cell_row rfl _ _ rb 25 #[.slice ua9 us9.length uc9] (0, 0) _ rfl ?_ Try.underlying25 rfl (by kernel_rfl)) rfl ?_
  · exact (heap_setCell_same w99 rb 0 _ _ _ HE9.out.1.r).trans rfl
  · exact BentE.fin HE9.out (turned_store w99 rb 0 _) (by omega)
end

end Go.Proofs.Ytajnldkempeheaa
