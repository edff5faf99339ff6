/-
  The drawn unit: an instruction. (printed by mkdg2.py)
-/
import Derived.Test.YtajnldkempeheaaDg1

namespace Go.Proofs.Ytajnldkempeheaa
open Go.RowKit
set_option linter.unusedVariables false
set_option linter.unusedSimpArgs false

theorem dg_alloc {w W : World} (h : Below w.heap.size w W) (o : Obj) : Below w.heap.size w (W.alloc o) := h.alloc h.size o
/-- The instruction that is being drawn. -/
structure SmSt (w0 : World) (br : Nat) (ra : Option Addr) (rl rc : Nat) (bs : List Int) (w : World) (rb xb : Nat) (op tq num : Int) (K k : Nat) (xs : List Int) (aa : Option Addr) (ac : Nat) (W : World) : Prop where
  x : W.heap[xb]? = some (.cells #[.int .i64 op, .int .i64 tq, .slice aa k ac, .int .i64 num] 83 (0, 0))
  r : W.heap[rb]? = some (.cells #[.int .i64 0, .int .i64 0, .slice none 0 0, .int .i64 0] 83 (0, 0))
  own : W.ownsRow 0 3 1 (.slice aa k ac) k (xs.map (Value.int .i64))
  new : ∀ g, (Value.slice aa k ac).ownBlock = some g → w.heap.size ≤ g ∧ g ≠ xb ∧ g ≠ rb
  rd : RdAt w0 br ra rl rc bs K w W
  lo : br < w.heap.size ∧ w.heap.size ≤ xb ∧ w.heap.size ≤ rb ∧ xb ≠ rb ∧ w0.heap.size ≤ w.heap.size
section
variable {w0 w W W' w9 : World} {br : Nat} {ra : Option Addr} {rl rc : Nat} {bs : List Int} {rb xb K k : Nat} {op tq num : Int} {xs : List Int} {aa : Option Addr} {ac : Nat}
theorem SmSt.later (h : SmSt w0 br ra rl rc bs w rb xb op tq num K k xs aa ac W) (hb : Below W.heap.size W W') : SmSt w0 br ra rl rc bs w rb xb op tq num K k xs aa ac W' :=
  ⟨(hb.block _ (Array.getElem?_eq_some_iff.1 h.x).1).trans h.x, (hb.block _ (Array.getElem?_eq_some_iff.1 h.r).1).trans h.r, ownsRow_below h.own hb, h.new, h.rd.later hb, h.lo⟩
/-- Something was drawn. -/
theorem SmSt.drew (h : SmSt w0 br ra rl rc bs w rb xb op tq num K k xs aa ac W) (hg : W.grownBy W' (some br)) {K' : Nat} (hr : RdAt w0 br ra rl rc bs K' w W') : SmSt w0 br ra rl rc bs w rb xb op tq num K' k xs aa ac W' := by
  have hl := h.lo
  have ht := turned_of_grown hg (S := fun k => k = br) (fun k hk => (Option.some.inj hk).symm)
  exact ⟨(ht.block _ (Array.getElem?_eq_some_iff.1 h.x).1 (by omega)).trans h.x, (ht.block _ (Array.getElem?_eq_some_iff.1 h.r).1 (by omega)).trans h.r, own_turned h.own ht (fun k hk => by have := (h.new k hk).1; omega), h.new, hr, h.lo⟩
theorem SmSt.put (h : SmSt w0 br ra rl rc bs w rb xb op tq num K k xs aa ac W) (hb : Below W.heap.size W W') {v : Int} {a' : Option Addr} {c' : Nat}
    (hr : w9.ownsRow 0 3 1 (.slice a' (k + 1) c') (k + 1) (xs.map (Value.int .i64) ++ [v].map (Value.int .i64))) (hg : W'.grownBy w9 (Value.slice aa k ac).ownBlock)
    (hl : (Value.slice a' (k + 1) c').ownBlock = (Value.slice aa k ac).ownBlock ∨ (Value.slice a' (k + 1) c').ownBlock = some W'.heap.size) :
    w9.heap[xb]? = some (.cells #[.int .i64 op, .int .i64 tq, .slice aa k ac, .int .i64 num] 83 (0, 0)) ∧ SmSt w0 br ra rl rc bs w rb xb op tq num K (k + 1) (xs ++ [v]) a' c' (w9.setCell ⟨xb, 2, none⟩ (.slice a' (k + 1) c')) := by
  have h1 := h.later hb
  have hlo := h.lo
  have ht : Turned (fun q => (Value.slice aa k ac).ownBlock = some q) W' w9 := turned_of_grown hg (fun k hk => hk)
  have hx9 := (ht.block _ (Array.getElem?_eq_some_iff.1 h1.x).1 (fun e => (h.new _ e).2.1 rfl)).trans h1.x
  have ht2 := turned_store w9 xb 2 (.slice a' (k + 1) c')
  have hnew : ∀ g, (Value.slice a' (k + 1) c').ownBlock = some g → w.heap.size ≤ g ∧ g ≠ xb ∧ g ≠ rb := fun g hgg => by
    rcases hl with e | e
    · exact h.new g (e ▸ hgg)
    · rw [e] at hgg
      cases hgg
      have a1 := (Array.getElem?_eq_some_iff.1 h1.x).1
      have a2 := (Array.getElem?_eq_some_iff.1 h1.r).1
      omega
  refine ⟨hx9, (heap_setCell_same w9 xb 2 _ _ _ hx9).trans rfl, ?_, ?_, hnew, ?_, h.lo⟩
  · exact (ht2.block _ (Nat.lt_of_lt_of_le (Array.getElem?_eq_some_iff.1 h1.r).1 ht.size) (by omega)).trans ((ht.block _ (Array.getElem?_eq_some_iff.1 h1.r).1 (fun e => (h.new _ e).2.2 rfl)).trans h1.r)
  · rw [List.map_append]
    exact own_turned hr ht2 (fun g hg => (hnew g hg).2.1)
  · exact (h1.rd.stay ht (fun g hg => by have := h.new g hg; omega) hlo.2.2.2.2).stay ht2 (fun g hg => by subst hg; omega) hlo.2.2.2.2
theorem SmSt.oneX (h : W.heap[xb]? = some (.cells #[.int .i64 op, .int .i64 tq, .slice aa k ac, .int .i64 num] 83 (0, 0))) (y : Int) :
    (W.setCell ⟨xb, 1, none⟩ (.int .i64 y)).heap[xb]? = some (.cells #[.int .i64 op, .int .i64 y, .slice aa k ac, .int .i64 num] 83 (0, 0)) ∧ (W.setCell ⟨xb, 3, none⟩ (.int .i64 y)).heap[xb]? = some (.cells #[.int .i64 op, .int .i64 tq, .slice aa k ac, .int .i64 y] 83 (0, 0)) :=
  ⟨(heap_setCell_same W xb 1 _ _ _ h).trans rfl, (heap_setCell_same W xb 3 _ _ _ h).trans rfl⟩
theorem SmSt.putTo (h : SmSt w0 br ra rl rc bs w rb xb op tq num K k xs aa ac W) (y : Int) : SmSt w0 br ra rl rc bs w rb xb op y num K k xs aa ac (W.setCell ⟨xb, 1, none⟩ (.int .i64 y)) := by
  have ht := turned_store W xb 1 (.int .i64 y)
  have hlo := h.lo
  exact ⟨(SmSt.oneX h.x y).1, (ht.block _ (Array.getElem?_eq_some_iff.1 h.r).1 (by omega)).trans h.r, own_turned h.own ht (fun g hg => (h.new g hg).2.1), h.new, h.rd.stay ht (fun g hg => by subst hg; omega) hlo.2.2.2.2, h.lo⟩
theorem SmSt.putNum (h : SmSt w0 br ra rl rc bs w rb xb op tq num K k xs aa ac W) (y : Int) : SmSt w0 br ra rl rc bs w rb xb op tq y K k xs aa ac (W.setCell ⟨xb, 3, none⟩ (.int .i64 y)) := by
  have ht := turned_store W xb 3 (.int .i64 y)
  have hlo := h.lo
  exact ⟨(SmSt.oneX h.x y).2, (ht.block _ (Array.getElem?_eq_some_iff.1 h.r).1 (by omega)).trans h.r, own_turned h.own ht (fun g hg => (h.new g hg).2.1), h.new, h.rd.stay ht (fun g hg => by subst hg; omega) hlo.2.2.2.2, h.lo⟩
end

theorem put4g {W : World} {g : Nat} {t : TypeId} {a b c d : Value} (h : W.heap[g]? = some (.cells #[a, b, c, d] t (0, 0))) (x0 x1 x2 x3 : Value) :
    ((((W.setCell ⟨g, 0, none⟩ x0).setCell ⟨g, 1, none⟩ x1).setCell ⟨g, 2, none⟩ x2).setCell ⟨g, 3, none⟩ x3).heap[g]? = some (.cells #[x0, x1, x2, x3] t (0, 0)) ∧ Turned (fun k => k = g) W ((((W.setCell ⟨g, 0, none⟩ x0).setCell ⟨g, 1, none⟩ x1).setCell ⟨g, 2, none⟩ x2).setCell ⟨g, 3, none⟩ x3) := by
  rw [show ((((W.setCell ⟨g, 0, none⟩ x0).setCell ⟨g, 1, none⟩ x1).setCell ⟨g, 2, none⟩ x2).setCell ⟨g, 3, none⟩ x3) = W.setCells g 0 [x0, x1, x2, x3] from rfl]
  have := heap_setCells_mid (w := W) (A := []) (B := [a, b, c, d]) (C := []) (vs := [x0, x1, x2, x3]) (o := 0) rfl (by simp) (by simpa using h)
  exact ⟨by simpa using this, turned_setCells _ _ _⟩
/-- An instruction was drawn. -/
def SomeAns (w0 : World) (br : Nat) (ra : Option Addr) (rl rc : Nat) (bs : List Int) (K : Nat) (w : World) (e : Ending) (w' : World) : Prop :=
  ∃ (cs : List Value) (x : InsD), e = .returned (.agg cs.toArray) ∧ InsK (fun k => w.heap.size ≤ k) w' cs x ∧ x.args.length ≤ 3 ∧ RdAt w0 br ra rl rc bs K w w'
section
variable {w0 w W W' : World} {br : Nat} {ra : Option Addr} {rl rc : Nat} {bs : List Int} {rb xb K k : Nat} {op tq num : Int} {xs : List Int} {aa : Option Addr} {ac : Nat}
theorem RdAt.more (h : RdAt w0 br ra rl rc bs K w W) {K' : Nat} (hK : K ≤ K') : RdAt w0 br ra rl rc bs K' w W := by
  obtain ⟨⟨p, hp, hr⟩, ht⟩ := h
  exact ⟨⟨p, by omega, hr⟩, ht⟩
theorem SmSt.more (h : SmSt w0 br ra rl rc bs w rb xb op tq num K k xs aa ac W) {K' : Nat} (hK : K ≤ K') : SmSt w0 br ra rl rc bs w rb xb op tq num K' k xs aa ac W := ⟨h.x, h.r, h.own, h.new, h.rd.more hK, h.lo⟩
theorem SmSt.fin {K0 : Nat} (h : SmSt w0 br ra rl rc bs w rb xb op tq num (K0 + 3 + k) k xs aa ac W) (ht : Turned (fun k => k = rb) W W') (hk : k ≤ 3) :
    SomeAns w0 br ra rl rc bs (K0 + 6) w (.returned (.agg #[.int .i64 op, .int .i64 tq, .slice aa k ac, .int .i64 num])) W' := by
  have hlo := h.lo
  have hl : xs.length = k := by have := h.own.1; simpa using this
  refine ⟨[.int .i64 op, .int .i64 tq, .slice aa k ac, .int .i64 num], ⟨op, tq, xs, num⟩, rfl, ⟨aa, ac, by rw [← hl], ?_, fun g hg => ?_, rfl⟩, by show xs.length ≤ 3; omega, (h.rd.stay ht (fun g hg => by subst hg; omega) hlo.2.2.2.2).more (by omega)⟩
  · show W'.ownsRow 0 _ 1 (.slice aa xs.length ac) xs.length _
    rw [hl]
    exact own_turned h.own ht (fun g hg => (h.new g hg).2.2)
  · exact (h.new g (by rw [← hl]; exact hg)).1
end
section
variable {w0 w : World} {br : Nat} {ra : Option Addr} {rl rc : Nat} {bs : List Int} {K : Nat} {us : List CodeD} {ua : Option Addr} {uc : Nat} {S : Nat → Prop}
set_option maxRecDepth 100000 in
set_option maxHeartbeats 8000000 in
theorem l7Some_any (hR : RdAt w0 br ra rl rc bs K w w) (hrl : rl ≤ 2000) (hK : K + 6 ≤ 1000000) {regs : Int} (hr1 : 1 ≤ regs) (hU : SepK 3 37 CodeK S w ua us.length uc us) (hS : ¬ S br) (hul : us.length ≤ 4) (hpar : ∀ c ∈ us, 0 ≤ c.params ∧ c.params ≤ 3) :
    Calls Try.prog 56 #[.pointer (some ⟨br, 0, none⟩), .agg #[.slice ua us.length uc], .int .i64 regs] w fun e w' => SomeAns w0 br ra rl rc bs (K + 6) w e w' := by
  have h2 := two_blocks w (.cells #[.slice ua us.length uc] 25) (.cells #[.int .i64 0, .int .i64 0, .slice none 0 0, .int .i64 0] 83)
  have hlt := hR.lt
  generalize hW : (w.alloc (.cells #[.slice ua us.length uc] 25)).alloc (.cells #[.int .i64 0, .int .i64 0, .slice none 0 0, .int .i64 0] 83) = W2 at h2
  have HW := Lib.hid hW
  have hR2 := hR.later h2.2.2.2
  have hb2 := h2.2.2.2
  obtain ⟨ub, hub⟩ : ∃ b, b = w.heap.size := ⟨_, rfl⟩
  rw [← hub] at h2
  have H2 := Lib.hid (And.intro h2.1 (And.intro h2.2.1 (And.intro hb2 (And.intro hub h2.2.2.1))))
  have HU := Lib.hid (And.intro hU (And.intro hS hpar))
  have HB := Lib.hid (And.intro hlt (And.intro hR2 hR.base.size))
  have hub0 := hub
  clear hR hU hS hpar hlt hR2 hb2 h2 hW hub0
  have HUB := Lib.hid hub
  clear hub
  go_enter Try.func56, Try.ntmps56
  go_upto_region 1 with fail
  rw [HW.out, ← HUB.out]
  have hba : Below W2.heap.size W2 (W2.alloc (.cells (([1, 1, 2, 3, 4, 5, 8, 9, 10, 13, 3, 6, 7, 11, 12, 14] : List Int).map (Value.int .i64)).toArray 3)) := (Below.refl _ _).alloc (Nat.le_refl _) _
  have HNM := Lib.hid (numR (HB.out.2.1.later hba) hrl (by omega) (g := W2.heap.size) (n := 16) (c := 16) (xs := [1, 1, 2, 3, 4, 5, 8, 9, 10, 13, 3, 6, 7, 11, 12, 14]) ⟨rfl, rowAt_of_own (World.ownsRow_lit (base := 0) (size := 1) W2 _ 16 (Nat.zero_le _) (by decide) rfl)⟩ (by have := HB.out.1; have := H2.out.2.2.1.size; omega) (by omega))
  have HBA := Lib.hid hba
  clear hba
  go_wp2_with fail
  refine HNM.out.mono ?_
  rintro e w3 ⟨op, rfl, hop, hR3, hg3⟩
  have hk3 : w3.heap[ub]? = some (.cells #[.slice ua us.length uc] 25 (0, 0)) ∧ w3.heap[ub + 1]? = some (.cells #[.int .i64 0, .int .i64 0, .slice none 0 0, .int .i64 0] 83 (0, 0)) := by
    have ht := (turned_of_below HBA.out (S := fun k => k = br) (fun k h1 h2 => by omega)).trans (turned_of_grown hg3 (S := fun k => k = br) (fun k hk => (Option.some.inj hk).symm))
    have hlt := HB.out.1
    have h4 := H2.out.2.2.2.1
    exact ⟨(ht.block _ (Array.getElem?_eq_some_iff.1 H2.out.1).1 (by omega)).trans H2.out.1, (ht.block _ (Array.getElem?_eq_some_iff.1 H2.out.2.1).1 (by omega)).trans H2.out.2.1⟩
  have H3 := Lib.hid (And.intro hk3.1 (And.intro hk3.2 hR3))
  clear hk3 hR3 hg3 HNM
  go_wp2_with fail
  refine (pickR H3.out.2.2 hrl (by omega) hr1).mono ?_
  rintro e w4 ⟨tv, rfl, htv, hR4, hg4⟩
  have ht4 := turned_of_grown hg4 (S := fun k => k = br) (fun k hk => (Option.some.inj hk).symm)
  have hba5 : Below w4.heap.size w4 (w4.alloc (.cells #[.int .i64 op, .int .i64 tv, .slice none 0 0, .int .i64 0] 83)) := (Below.refl _ _).alloc (Nat.le_refl _) _
  have hx5 := heap_alloc_new w4 (.cells #[.int .i64 op, .int .i64 tv, .slice none 0 0, .int .i64 0] 83)
  obtain ⟨xb, hxb⟩ : ∃ b, b = w4.heap.size := ⟨_, rfl⟩
  rw [← hxb] at hx5
  have H5 := Lib.hid (show (w4.alloc (.cells #[.int .i64 op, .int .i64 tv, .slice none 0 0, .int .i64 0] 83)).heap[ub]? = some (.cells #[.slice ua us.length uc] 25 (0, 0)) ∧ SmSt w0 br ra rl rc bs w (ub + 1) xb op tv 0 (K + 2) 0 [] none 0 (w4.alloc (.cells #[.int .i64 op, .int .i64 tv, .slice none 0 0, .int .i64 0] 83)) from by
    have hlt := HB.out.1
    have hu := H2.out.2.2.2.1
    have a1 := (Array.getElem?_eq_some_iff.1 H3.out.1).1
    have a2 := (Array.getElem?_eq_some_iff.1 H3.out.2.1).1
    have b1 := (ht4.block _ a1 (by omega)).trans H3.out.1
    have b2 := (ht4.block _ a2 (by omega)).trans H3.out.2.1
    have c1 := (Array.getElem?_eq_some_iff.1 b1).1
    have c2 := (Array.getElem?_eq_some_iff.1 b2).1
    exact ⟨(hba5.block _ c1).trans b1, hx5, (hba5.block _ c2).trans b2, World.ownsRow_nil _ _ _ _, fun g hg => by simp [Value.ownBlock] at hg, hR4.later hba5, by omega, by omega, by omega, by omega, HB.out.2.2⟩)
  go_upto_region 3 with fail
  rw [← hxb]
  clear hx5 hba5 ht4 hR4 hg4 hxb
  generalize w4.alloc (.cells #[.int .i64 op, .int .i64 tv, .slice none 0 0, .int .i64 0] 83) = w5 at H5 ⊢
  have hub5 := cell_of_row _ _ 0 _ _ _ H5.out.1
  simp only [List.getElem?_toArray, List.getElem?_cons_zero] at hub5
  go_wp2_with fail
  refine (l7Args_any op w5).mono ?_
  rintro e w6 ⟨rfl, rfl⟩
  have hx5 := H5.out.2.x
  by_cases h14 : op = 14
  · subst h14
    by_cases hu0 : us.length = 0
    · rw [hu0] at hub5
      go_wp2_with fail
      refine (pickR (H5.out.2.rd) hrl (by omega) hr1).mono ?_
      rintro e w7 ⟨v7, rfl, hv7, hR7, hg7⟩
      have HM7 := Lib.hid (H5.out.2.drew hg7 hR7)
      have r0 := cell_of_row _ _ 0 _ _ _ HM7.out.r
      have r1 := cell_of_row _ _ 1 _ _ _ HM7.out.r
      have r2 := cell_of_row _ _ 2 _ _ _ HM7.out.r
      have r3 := cell_of_row _ _ 3 _ _ _ HM7.out.r
      have y0 := frozen_of_row _ _ 0 _ _ HM7.out.r
      have y1 := frozen_of_row _ _ 1 _ _ HM7.out.r
      have y2 := frozen_of_row _ _ 2 _ _ HM7.out.r
      have y3 := frozen_of_row _ _ 3 _ _ HM7.out.r
      simp only [List.getElem?_toArray, List.getElem?_cons_zero, List.getElem?_cons_succ] at r0 r1 r2 r3
      have HL7 := Lib.hid (show w.heap.size ≤ w7.heap.size from HM7.out.rd.turned.size)
      have hrlt := (Array.getElem?_eq_some_iff.1 HM7.out.r).1
      have hrne : ¬ ub + 1 = w7.heap.size := by omega
      have hrne2 : ¬ w7.heap.size = ub + 1 := by omega
      have HP := Lib.hid (put4g HM7.out.r (.int .i64 13) (.int .i64 (-1)) (.slice (some ⟨w7.heap.size, 0, none⟩) 1 1) (.int .i64 0))
      have HSZ := Lib.hid (show ((((w7.setCell ⟨ub + 1, 0, none⟩ (.int .i64 13)).setCell ⟨ub + 1, 1, none⟩ (.int .i64 (-1))).setCell ⟨ub + 1, 2, none⟩ (.slice (some ⟨w7.heap.size, 0, none⟩) 1 1)).setCell ⟨ub + 1, 3, none⟩ (.int .i64 0)).heap.size = w7.heap.size by simp)
      clear hx5 hR7 hg7
      go_wp2
      generalize (((w7.setCell ⟨ub + 1, 0, none⟩ (.int .i64 13)).setCell ⟨ub + 1, 1, none⟩ (.int .i64 (-1))).setCell ⟨ub + 1, 2, none⟩ (.slice (some ⟨w7.heap.size, 0, none⟩) 1 1)).setCell ⟨ub + 1, 3, none⟩ (.int .i64 0) = W9 at HP HSZ ⊢
      have hba8 : Below W9.heap.size W9 (W9.alloc (.cells #[.int .i64 v7] 3)) := (Below.refl _ _).alloc (Nat.le_refl _) _
      have HO8 := Lib.hid (World.ownsRow_lit (base := 0) (size := 1) (e := 3) W9 #[.int .i64 v7] 1 (Nat.zero_le _) (by decide) rfl)
      rw [HSZ.out] at HO8
      refine bodyPost_ret (results_cell_row rfl _ _ (ub + 1) 83 #[.int .i64 13, .int .i64 (-1), .slice (some ⟨w7.heap.size, 0, none⟩) 1 1, .int .i64 0] (0, 0) _ rfl ?_ Try.underlying83 rfl (by kernel_rfl)) rfl ?_
      · exact (hba8.block _ (Array.getElem?_eq_some_iff.1 HP.out.1).1).trans HP.out.1
      have hlo := HM7.out.lo
      exact ⟨[.int .i64 13, .int .i64 (-1), .slice (some ⟨w7.heap.size, 0, none⟩) 1 1, .int .i64 0], ⟨13, -1, [v7], 0⟩, rfl, ⟨some ⟨w7.heap.size, 0, none⟩, 1, rfl, HO8.out, fun g hg => by cases hg; exact HL7.out, rfl⟩, by simp, ((HM7.out.rd.stay HP.out.2 (fun g hg => by subst hg; omega) hlo.2.2.2.2).later hba8).more (by omega)⟩
    · have hue : ((us.length : Int) == 0) = false := by rw [beq_eq_false_iff_ne]; omega
      go_wp2_with fail
      refine (pickR (H5.out.2.rd) hrl (by omega) (n := (us.length : Int)) (by omega)).mono ?_
      rintro e w7 ⟨v7, rfl, hv7, hR7, hg7⟩
      obtain ⟨vn, rfl⟩ : ∃ n : Nat, v7 = (n : Int) := ⟨v7.toNat, by omega⟩
      have HM7 := Lib.hid (H5.out.2.drew hg7 hR7)
      have hux := (turned_of_grown hg7 (S := fun k => k = br) (fun k hk => (Option.some.inj hk).symm))
      have hlt7 := HM7.out.lo
      have hu7 := (hux.block _ (Array.getElem?_eq_some_iff.1 H5.out.1).1 (by have hu2 := H2.out.2.2.2.1; omega)).trans H5.out.1
      have hu7c := cell_of_row _ _ 0 _ _ _ hu7
      simp only [List.getElem?_toArray, List.getElem?_cons_zero] at hu7c
      have x3 := cell_of_row _ _ 3 _ _ _ HM7.out.x
      have z3 := frozen_of_row _ _ 3 _ _ HM7.out.x
      simp only [List.getElem?_toArray, List.getElem?_cons_zero, List.getElem?_cons_succ] at x3
      have HM8 := Lib.hid (HM7.out.putNum (vn : Int))
      have ht3 := turned_store w7 xb 3 (.int .i64 (vn : Int))
      have hubx : ub ≠ xb := fun e => by
        have h1 := HM7.out.x
        rw [← e, hu7] at h1
        cases h1
      have hu8c : (w7.setCell ⟨xb, 3, none⟩ (.int .i64 (vn : Int))).cell? ⟨ub, 0, none⟩ = some (.slice ua us.length uc) := (World.cell?_of_block (ht3.block ub (Array.getElem?_eq_some_iff.1 hu7).1 hubx)).trans hu7c
      have hU8 := (HU.out.1.turned codeK_sets HM8.out.rd.turned (fun k hk hs e => HU.out.2.1 (e ▸ hs))).rd codeK_rd
      obtain ⟨qb, qo, pp, rgs, blocks, ba, bc, hqa, hcx, c0, -, -, -⟩ := code_place hU8 (i := vn) (by omega)
      have hpp := HU.out.2.2 _ (List.mem_of_getElem? hcx)
      change 0 ≤ pp ∧ pp ≤ 3 at hpp
      obtain ⟨mn, rfl⟩ : ∃ n : Nat, pp = (n : Int) := ⟨pp.toNat, by omega⟩
      subst hqa
      have hvl : (vn : Int) < (us.length : Int) := hv7.2
      have x38 := cell_of_row _ _ 3 _ _ _ HM8.out.x
      simp only [List.getElem?_toArray, List.getElem?_cons_zero, List.getElem?_cons_succ] at x38
      have hm3 : mn ≤ 3 := by omega
      go_upto_region 8 with fail
      generalize w7.setCell ⟨xb, 3, none⟩ (.int .i64 (vn : Int)) = w8 at HM8 hu8c c0 x38 ⊢
      clear hub5 hux hu7 hu7c x3 z3 ht3 hU8 hcx hpp hR7 hg7 hx5
      have HM := Lib.hid (HM8.out.more (K' := K + 3 + 0) (by omega))
      go_wp2_with fail
      refine (l7Makes_any 14 w8).mono ?_
      rintro e w9 ⟨rfl, rfl⟩
      rw [show makesB 14 = true from rfl]
      clear c0 x38 hu8c
      go_wp2
      go_loopg [10] mn (fun F i wr => ∃ k : Nat, k + F = mn ∧ i = .int .i64 k ∧ ∃ xs aa ac, Hid (SmSt w0 br ra rl rc bs w (ub + 1) xb 14 tv (vn : Int) (K + 3 + k) k xs aa ac wr))
      case atStart => exact ⟨0, by omega, rfl, _, _, _, HM⟩
      case round =>
        obtain ⟨k, hk, rfl, xs, aa, ac, HK⟩ := hrel
        clear HM
        have x2 := cell_of_row _ _ 2 _ _ _ HK.out.x
        simp only [List.getElem?_toArray, List.getElem?_cons_zero, List.getElem?_cons_succ] at x2
        have hxl := (Array.getElem?_eq_some_iff.1 HK.out.x).1
        by_cases hlt : k < mn
        · have hki : (k : Int) < (mn : Int) := by omega
          have HP := Lib.hid (fun q => pickR (K := K + 3 + k) (HK.out.later (below_drewN (Below.refl wr.heap.size wr) q)).rd hrl (by omega) hr1)
          go_upto_region 16 with fail
          go_region_law (first | (go_simp; go_at_call 22; refine (HP.out 1).mono ?_; rintro e w4 ⟨v, rfl, hv, hR4, hg4⟩; (have HK4 := Lib.hid ((HK.out.later (below_drewN (Below.refl wr.heap.size wr) 1)).drew hg4 hR4)); (have x24 := cell_of_row _ _ 2 _ _ _ HK4.out.x); (simp only [List.getElem?_toArray, List.getElem?_cons_zero, List.getElem?_cons_succ] at x24); (have x25 := fun o => cell_later ((Below.refl w4.heap.size w4).alloc (Nat.le_refl _) o) x24); clear hR4 hg4) | (refine step_app_ints rfl (.tmp 61) (.tmp 65) rfl 0 _ k _ rfl (ownsRow_below HK4.out.own (by repeat (first | exact Below.refl _ _ | apply dg_drew | apply dg_drewN | apply dg_alloc))) _ 1 1 [v] rfl rfl (by first | exact rowAt_one _ _ _ | exact RowAt.later (rowAt_one _ _ _) ((Below.refl _ _).drew)) (by rintro ⟨⟩) (by omega) (Nat.zero_le _) ?_; intro a9 c9 w9 hown9 hg9 hlies9; (have HP9 := Lib.hid (HK4.out.put (by repeat (first | exact Below.refl _ _ | apply dg_drew | apply dg_drewN | apply dg_alloc)) hown9 hg9 hlies9)); (have t9 := cell_of_row _ _ 2 _ _ _ HP9.out.1); (have z9 := frozen_of_row _ _ 2 _ _ HP9.out.1); (simp only [List.getElem?_toArray, List.getElem?_cons_zero, List.getElem?_cons_succ] at t9); clear hown9 hg9 hlies9))
          all_goals
            have HN := Lib.hid HP9.out.2
            clear HP9 t9 z9 x2
            go_wp2
            go_roundg (mn - (k + 1))
            case measure => omega
            case rel => exact ⟨k + 1, by omega, by go_num, _, _, _, HN⟩
        · obtain rfl : k = mn := by omega
          have x0 := cell_of_row _ _ 0 _ _ _ HK.out.x
          have x1 := cell_of_row _ _ 1 _ _ _ HK.out.x
          have x3 := cell_of_row _ _ 3 _ _ _ HK.out.x
          have r0 := cell_of_row _ _ 0 _ _ _ HK.out.r
          have r1 := cell_of_row _ _ 1 _ _ _ HK.out.r
          have r2 := cell_of_row _ _ 2 _ _ _ HK.out.r
          have r3 := cell_of_row _ _ 3 _ _ _ HK.out.r
          have y0 := frozen_of_row _ _ 0 _ _ HK.out.r
          have y1 := frozen_of_row _ _ 1 _ _ HK.out.r
          have y2 := frozen_of_row _ _ 2 _ _ HK.out.r
          have y3 := frozen_of_row _ _ 3 _ _ HK.out.r
          simp only [List.getElem?_toArray, List.getElem?_cons_zero, List.getElem?_cons_succ] at x0 x1 x3 r0 r1 r2 r3
          go_wp2
          have HP := Lib.hid (put4g HK.out.r (.int .i64 14) (.int .i64 tv) (.slice aa k ac) (.int .i64 (vn : Int)))
          generalize (((wr.setCell ⟨ub + 1, 0, none⟩ (.int .i64 14)).setCell ⟨ub + 1, 1, none⟩ (.int .i64 tv)).setCell ⟨ub + 1, 2, none⟩ (.slice aa k ac)).setCell ⟨ub + 1, 3, none⟩ (.int .i64 (vn : Int)) = W9 at HP ⊢
          refine bodyPost_ret (results_cell_row rfl _ _ (ub + 1) 83 #[.int .i64 14, .int .i64 tv, .slice aa k ac, .int .i64 (vn : Int)] (0, 0) _ rfl ?_ Try.underlying83 rfl (by kernel_rfl)) rfl ?_
          · exact HP.out.1
          exact HK.out.fin HP.out.2 (by omega)
  · have ho14 : (op == 14) = false := by rw [beq_eq_false_iff_ne]; exact h14
    obtain ⟨mn, hmn, hm3⟩ : ∃ n : Nat, argsS op = (n : Int) ∧ n ≤ 3 := by
      have hr : 1 ≤ op ∧ op ≤ 14 := by
        simp only [List.mem_cons, List.not_mem_nil, or_false] at hop
        omega
      unfold argsS
      split
      · exact ⟨0, rfl, by omega⟩
      · split
        · exact ⟨1, rfl, by omega⟩
        · split
          · exact ⟨2, rfl, by omega⟩
          · omega
    rw [hmn]
    clear hmn
    have x1 := cell_of_row _ _ 1 _ _ _ hx5
    have z1 := frozen_of_row _ _ 1 _ _ hx5
    have x3 := cell_of_row _ _ 3 _ _ _ hx5
    have z3 := frozen_of_row _ _ 3 _ _ hx5
    simp only [List.getElem?_toArray, List.getElem?_cons_zero, List.getElem?_cons_succ] at x1 x3
    clear hx5 hub5
    by_cases h1 : op = 1
    · subst h1
      have hba : Below w6.heap.size w6 (w6.alloc (.cells (([0, 1, 2, 3, 15, 16, 255] : List Int).map (Value.int .i64)).toArray 3)) := (Below.refl _ _).alloc (Nat.le_refl _) _
      have HNM := Lib.hid (numR (H5.out.2.rd.later hba) hrl (by omega) (g := w6.heap.size) (n := 7) (c := 7) (xs := [0, 1, 2, 3, 15, 16, 255]) ⟨rfl, rowAt_of_own (World.ownsRow_lit (base := 0) (size := 1) w6 _ 7 (Nat.zero_le _) (by decide) rfl)⟩ (by have := H5.out.2.lo; have := H5.out.2.rd.turned.size; omega) (by omega))
      have HBA2 := Lib.hid hba
      clear hba
      go_wp2_with fail
      refine HNM.out.mono ?_
      rintro e w7 ⟨v7, rfl, hv7, hR7, hg7⟩
      have HM7 := Lib.hid ((H5.out.2.later HBA2.out).drew hg7 hR7)
      have x3 := cell_of_row _ _ 3 _ _ _ HM7.out.x
      have z3 := frozen_of_row _ _ 3 _ _ HM7.out.x
      simp only [List.getElem?_toArray, List.getElem?_cons_zero, List.getElem?_cons_succ] at x3
      have HM := Lib.hid ((HM7.out.putNum v7).more (K' := K + 3 + 0) (by omega))
      clear hR7 hg7 hv7 HNM x1 z1
      go_upto_region 11 with fail
      generalize w7.setCell ⟨xb, 3, none⟩ (.int .i64 v7) = w8 at HM ⊢
      clear x3 z3
      go_wp2_with fail
      refine (l7Makes_any 1 w8).mono ?_
      rintro e w9 ⟨rfl, rfl⟩
      rw [show makesB 1 = true from rfl]
      go_wp2
      go_loopg [10] mn (fun F i wr => ∃ k : Nat, k + F = mn ∧ i = .int .i64 k ∧ ∃ xs aa ac, Hid (SmSt w0 br ra rl rc bs w (ub + 1) xb 1 tv v7 (K + 3 + k) k xs aa ac wr))
      case atStart => exact ⟨0, by omega, rfl, _, _, _, HM⟩
      case round =>
        obtain ⟨k, hk, rfl, xs, aa, ac, HK⟩ := hrel
        clear HM
        have x2 := cell_of_row _ _ 2 _ _ _ HK.out.x
        simp only [List.getElem?_toArray, List.getElem?_cons_zero, List.getElem?_cons_succ] at x2
        have hxl := (Array.getElem?_eq_some_iff.1 HK.out.x).1
        by_cases hlt : k < mn
        · have hki : (k : Int) < (mn : Int) := by omega
          have HP := Lib.hid (fun q => pickR (K := K + 3 + k) (HK.out.later (below_drewN (Below.refl wr.heap.size wr) q)).rd hrl (by omega) hr1)
          go_upto_region 16 with fail
          go_region_law (first | (go_simp; go_at_call 22; refine (HP.out 1).mono ?_; rintro e w4 ⟨v, rfl, hv, hR4, hg4⟩; (have HK4 := Lib.hid ((HK.out.later (below_drewN (Below.refl wr.heap.size wr) 1)).drew hg4 hR4)); (have x24 := cell_of_row _ _ 2 _ _ _ HK4.out.x); (simp only [List.getElem?_toArray, List.getElem?_cons_zero, List.getElem?_cons_succ] at x24); (have x25 := fun o => cell_later ((Below.refl w4.heap.size w4).alloc (Nat.le_refl _) o) x24); clear hR4 hg4) | (refine step_app_ints rfl (.tmp 61) (.tmp 65) rfl 0 _ k _ rfl (ownsRow_below HK4.out.own (by repeat (first | exact Below.refl _ _ | apply dg_drew | apply dg_drewN | apply dg_alloc))) _ 1 1 [v] rfl rfl (by first | exact rowAt_one _ _ _ | exact RowAt.later (rowAt_one _ _ _) ((Below.refl _ _).drew)) (by rintro ⟨⟩) (by omega) (Nat.zero_le _) ?_; intro a9 c9 w9 hown9 hg9 hlies9; (have HP9 := Lib.hid (HK4.out.put (by repeat (first | exact Below.refl _ _ | apply dg_drew | apply dg_drewN | apply dg_alloc)) hown9 hg9 hlies9)); (have t9 := cell_of_row _ _ 2 _ _ _ HP9.out.1); (have z9 := frozen_of_row _ _ 2 _ _ HP9.out.1); (simp only [List.getElem?_toArray, List.getElem?_cons_zero, List.getElem?_cons_succ] at t9); clear hown9 hg9 hlies9))
          all_goals
            have HN := Lib.hid HP9.out.2
            clear HP9 t9 z9 x2
            go_wp2
            go_roundg (mn - (k + 1))
            case measure => omega
            case rel => exact ⟨k + 1, by omega, by go_num, _, _, _, HN⟩
        · obtain rfl : k = mn := by omega
          have x0 := cell_of_row _ _ 0 _ _ _ HK.out.x
          have x1 := cell_of_row _ _ 1 _ _ _ HK.out.x
          have x3 := cell_of_row _ _ 3 _ _ _ HK.out.x
          have r0 := cell_of_row _ _ 0 _ _ _ HK.out.r
          have r1 := cell_of_row _ _ 1 _ _ _ HK.out.r
          have r2 := cell_of_row _ _ 2 _ _ _ HK.out.r
          have r3 := cell_of_row _ _ 3 _ _ _ HK.out.r
          have y0 := frozen_of_row _ _ 0 _ _ HK.out.r
          have y1 := frozen_of_row _ _ 1 _ _ HK.out.r
          have y2 := frozen_of_row _ _ 2 _ _ HK.out.r
          have y3 := frozen_of_row _ _ 3 _ _ HK.out.r
          simp only [List.getElem?_toArray, List.getElem?_cons_zero, List.getElem?_cons_succ] at x0 x1 x3 r0 r1 r2 r3
          go_wp2
          have HP := Lib.hid (put4g HK.out.r (.int .i64 1) (.int .i64 tv) (.slice aa k ac) (.int .i64 v7))
          generalize (((wr.setCell ⟨ub + 1, 0, none⟩ (.int .i64 1)).setCell ⟨ub + 1, 1, none⟩ (.int .i64 tv)).setCell ⟨ub + 1, 2, none⟩ (.slice aa k ac)).setCell ⟨ub + 1, 3, none⟩ (.int .i64 v7) = W9 at HP ⊢
          refine bodyPost_ret (results_cell_row rfl _ _ (ub + 1) 83 #[.int .i64 1, .int .i64 tv, .slice aa k ac, .int .i64 v7] (0, 0) _ rfl ?_ Try.underlying83 rfl (by kernel_rfl)) rfl ?_
          · exact HP.out.1
          exact HK.out.fin HP.out.2 (by omega)
    · have ho1 : (op == 1) = false := by rw [beq_eq_false_iff_ne]; exact h1
      have HMK := Lib.hid (l7Makes_any op w6)
      cases hmk : makesB op with
      | true =>
        rw [hmk] at HMK
        have HM := Lib.hid (H5.out.2.more (K' := K + 3 + 0) (by omega))
        clear hmk x1 z1 x3 z3 hop h1 h14
        go_wp2_with fail
        refine HMK.out.mono ?_
        rintro e w9 ⟨rfl, rfl⟩
        go_wp2
        go_loopg [10] mn (fun F i wr => ∃ k : Nat, k + F = mn ∧ i = .int .i64 k ∧ ∃ xs aa ac, Hid (SmSt w0 br ra rl rc bs w (ub + 1) xb op tv 0 (K + 3 + k) k xs aa ac wr))
        case atStart => exact ⟨0, by omega, rfl, _, _, _, HM⟩
        case round =>
          obtain ⟨k, hk, rfl, xs, aa, ac, HK⟩ := hrel
          clear HM
          have x2 := cell_of_row _ _ 2 _ _ _ HK.out.x
          simp only [List.getElem?_toArray, List.getElem?_cons_zero, List.getElem?_cons_succ] at x2
          have hxl := (Array.getElem?_eq_some_iff.1 HK.out.x).1
          by_cases hlt : k < mn
          · have hki : (k : Int) < (mn : Int) := by omega
            have HP := Lib.hid (fun q => pickR (K := K + 3 + k) (HK.out.later (below_drewN (Below.refl wr.heap.size wr) q)).rd hrl (by omega) hr1)
            go_upto_region 16 with fail
            go_region_law (first | (go_simp; go_at_call 22; refine (HP.out 1).mono ?_; rintro e w4 ⟨v, rfl, hv, hR4, hg4⟩; (have HK4 := Lib.hid ((HK.out.later (below_drewN (Below.refl wr.heap.size wr) 1)).drew hg4 hR4)); (have x24 := cell_of_row _ _ 2 _ _ _ HK4.out.x); (simp only [List.getElem?_toArray, List.getElem?_cons_zero, List.getElem?_cons_succ] at x24); (have x25 := fun o => cell_later ((Below.refl w4.heap.size w4).alloc (Nat.le_refl _) o) x24); clear hR4 hg4) | (refine step_app_ints rfl (.tmp 61) (.tmp 65) rfl 0 _ k _ rfl (ownsRow_below HK4.out.own (by repeat (first | exact Below.refl _ _ | apply dg_drew | apply dg_drewN | apply dg_alloc))) _ 1 1 [v] rfl rfl (by first | exact rowAt_one _ _ _ | exact RowAt.later (rowAt_one _ _ _) ((Below.refl _ _).drew)) (by rintro ⟨⟩) (by omega) (Nat.zero_le _) ?_; intro a9 c9 w9 hown9 hg9 hlies9; (have HP9 := Lib.hid (HK4.out.put (by repeat (first | exact Below.refl _ _ | apply dg_drew | apply dg_drewN | apply dg_alloc)) hown9 hg9 hlies9)); (have t9 := cell_of_row _ _ 2 _ _ _ HP9.out.1); (have z9 := frozen_of_row _ _ 2 _ _ HP9.out.1); (simp only [List.getElem?_toArray, List.getElem?_cons_zero, List.getElem?_cons_succ] at t9); clear hown9 hg9 hlies9))
            all_goals
              have HN := Lib.hid HP9.out.2
              clear HP9 t9 z9 x2
              go_wp2
              go_roundg (mn - (k + 1))
              case measure => omega
              case rel => exact ⟨k + 1, by omega, by go_num, _, _, _, HN⟩
          · obtain rfl : k = mn := by omega
            have x0 := cell_of_row _ _ 0 _ _ _ HK.out.x
            have x1 := cell_of_row _ _ 1 _ _ _ HK.out.x
            have x3 := cell_of_row _ _ 3 _ _ _ HK.out.x
            have r0 := cell_of_row _ _ 0 _ _ _ HK.out.r
            have r1 := cell_of_row _ _ 1 _ _ _ HK.out.r
            have r2 := cell_of_row _ _ 2 _ _ _ HK.out.r
            have r3 := cell_of_row _ _ 3 _ _ _ HK.out.r
            have y0 := frozen_of_row _ _ 0 _ _ HK.out.r
            have y1 := frozen_of_row _ _ 1 _ _ HK.out.r
            have y2 := frozen_of_row _ _ 2 _ _ HK.out.r
            have y3 := frozen_of_row _ _ 3 _ _ HK.out.r
            simp only [List.getElem?_toArray, List.getElem?_cons_zero, List.getElem?_cons_succ] at x0 x1 x3 r0 r1 r2 r3
            go_wp2
            have HP := Lib.hid (put4g HK.out.r (.int .i64 op) (.int .i64 tv) (.slice aa k ac) (.int .i64 0))
            generalize (((wr.setCell ⟨ub + 1, 0, none⟩ (.int .i64 op)).setCell ⟨ub + 1, 1, none⟩ (.int .i64 tv)).setCell ⟨ub + 1, 2, none⟩ (.slice aa k ac)).setCell ⟨ub + 1, 3, none⟩ (.int .i64 0) = W9 at HP ⊢
            refine bodyPost_ret (results_cell_row rfl _ _ (ub + 1) 83 #[.int .i64 op, .int .i64 tv, .slice aa k ac, .int .i64 0] (0, 0) _ rfl ?_ Try.underlying83 rfl (by kernel_rfl)) rfl ?_
            · exact HP.out.1
            exact HK.out.fin HP.out.2 (by omega)
      | false =>
        rw [hmk] at HMK
        have HM := Lib.hid ((H5.out.2.putTo (-1)).more (K' := K + 3 + 0) (by omega))
        clear hmk hop h1 h14 x3 z3
        go_wp2_with fail
        refine HMK.out.mono ?_
        rintro e w9 ⟨rfl, rfl⟩
        go_upto_region 13 with fail
        generalize w9.setCell ⟨xb, 1, none⟩ (.int .i64 (-1)) = w10 at HM ⊢
        clear x1 z1
        go_wp2
        go_loopg [10] mn (fun F i wr => ∃ k : Nat, k + F = mn ∧ i = .int .i64 k ∧ ∃ xs aa ac, Hid (SmSt w0 br ra rl rc bs w (ub + 1) xb op (-1) 0 (K + 3 + k) k xs aa ac wr))
        case atStart => exact ⟨0, by omega, rfl, _, _, _, HM⟩
        case round =>
          obtain ⟨k, hk, rfl, xs, aa, ac, HK⟩ := hrel
          clear HM
          have x2 := cell_of_row _ _ 2 _ _ _ HK.out.x
          simp only [List.getElem?_toArray, List.getElem?_cons_zero, List.getElem?_cons_succ] at x2
          have hxl := (Array.getElem?_eq_some_iff.1 HK.out.x).1
          by_cases hlt : k < mn
          · have hki : (k : Int) < (mn : Int) := by omega
            have HP := Lib.hid (fun q => pickR (K := K + 3 + k) (HK.out.later (below_drewN (Below.refl wr.heap.size wr) q)).rd hrl (by omega) hr1)
            go_upto_region 16 with fail
            go_region_law (first | (go_simp; go_at_call 22; refine (HP.out 1).mono ?_; rintro e w4 ⟨v, rfl, hv, hR4, hg4⟩; (have HK4 := Lib.hid ((HK.out.later (below_drewN (Below.refl wr.heap.size wr) 1)).drew hg4 hR4)); (have x24 := cell_of_row _ _ 2 _ _ _ HK4.out.x); (simp only [List.getElem?_toArray, List.getElem?_cons_zero, List.getElem?_cons_succ] at x24); (have x25 := fun o => cell_later ((Below.refl w4.heap.size w4).alloc (Nat.le_refl _) o) x24); clear hR4 hg4) | (refine step_app_ints rfl (.tmp 61) (.tmp 65) rfl 0 _ k _ rfl (ownsRow_below HK4.out.own (by repeat (first | exact Below.refl _ _ | apply dg_drew | apply dg_drewN | apply dg_alloc))) _ 1 1 [v] rfl rfl (by first | exact rowAt_one _ _ _ | exact RowAt.later (rowAt_one _ _ _) ((Below.refl _ _).drew)) (by rintro ⟨⟩) (by omega) (Nat.zero_le _) ?_; intro a9 c9 w9 hown9 hg9 hlies9; (have HP9 := Lib.hid (HK4.out.put (by repeat (first | exact Below.refl _ _ | apply dg_drew | apply dg_drewN | apply dg_alloc)) hown9 hg9 hlies9)); (have t9 := cell_of_row _ _ 2 _ _ _ HP9.out.1); (have z9 := frozen_of_row _ _ 2 _ _ HP9.out.1); (simp only [List.getElem?_toArray, List.getElem?_cons_zero, List.getElem?_cons_succ] at t9); clear hown9 hg9 hlies9))
            all_goals
              have HN := Lib.hid HP9.out.2
              clear HP9 t9 z9 x2
              go_wp2
              go_roundg (mn - (k + 1))
              case measure => omega
              case rel => exact ⟨k + 1, by omega, by go_num, _, _, _, HN⟩
          · obtain rfl : k = mn := by omega
            have x0 := cell_of_row _ _ 0 _ _ _ HK.out.x
            have x1 := cell_of_row _ _ 1 _ _ _ HK.out.x
            have x3 := cell_of_row _ _ 3 _ _ _ HK.out.x
            have r0 := cell_of_row _ _ 0 _ _ _ HK.out.r
            have r1 := cell_of_row _ _ 1 _ _ _ HK.out.r
            have r2 := cell_of_row _ _ 2 _ _ _ HK.out.r
            have r3 := cell_of_row _ _ 3 _ _ _ HK.out.r
            have y0 := frozen_of_row _ _ 0 _ _ HK.out.r
            have y1 := frozen_of_row _ _ 1 _ _ HK.out.r
            have y2 := frozen_of_row _ _ 2 _ _ HK.out.r
            have y3 := frozen_of_row _ _ 3 _ _ HK.out.r
            simp only [List.getElem?_toArray, List.getElem?_cons_zero, List.getElem?_cons_succ] at x0 x1 x3 r0 r1 r2 r3
            go_wp2
            have HP := Lib.hid (put4g HK.out.r (.int .i64 op) (.int .i64 (-1)) (.slice aa k ac) (.int .i64 0))
            generalize (((wr.setCell ⟨ub + 1, 0, none⟩ (.int .i64 op)).setCell ⟨ub + 1, 1, none⟩ (.int .i64 (-1))).setCell ⟨ub + 1, 2, none⟩ (.slice aa k ac)).setCell ⟨ub + 1, 3, none⟩ (.int .i64 0) = W9 at HP ⊢
            refine bodyPost_ret (results_cell_row rfl _ _ (ub + 1) 83 #[.int .i64 op, .int .i64 (-1), .slice aa k ac, .int .i64 0] (0, 0) _ rfl ?_ Try.underlying83 rfl (by kernel_rfl)) rfl ?_
            · exact HP.out.1
            exact HK.out.fin HP.out.2 (by omega)
end

end Go.Proofs.Ytajnldkempeheaa
