
/-
  The reference draws an expression with many numbers (l6Draw), DrawSafeExpr, DrawFoldExpr. (printed by mkds.py)
-/
import Derived.Test.YtccfbnhlhjlmgaaDoorDr5
import Derived.Test.YtccfbnhlhjlmgaaDoorEs3
import Derived.Test.YtccfbnhlhjlmgaaDoorPe3
import Derived.Test.YtccfbnhlhjlmgaaDoorEp
import Derived.Deep.LoopGhost
import Derived.Deep.DeepCutAuto
import Derived.Test.YtccfbnhlhjlmgaaDoorFd2
import Derived.Test.YtccfbnhlhjlmgaaDoorEm

namespace Go.Proofs.YtccfbnhlhjlmgaaDoor
open Go.RowKit
set_option linter.unusedVariables false

set_option maxHeartbeats 1000000 in
theorem numS_any (n : Int) (w : World) : Calls Tryd.prog 136 #[.int .i64 n] w fun e w' => e = .returned (.agg #[.int .i64 1, .int .i64 n, .string ⟨#[]⟩, .slice none 0 0]) ∧ Below w.heap.size w w' := by
  have hr := heap_alloc_new w (.cells #[.int .i64 0, .int .i64 0, .string ⟨#[]⟩, .slice none 0 0] 29)
  have HB := Lib.hid (And.intro (show Below w.heap.size w (w.alloc (.cells #[.int .i64 0, .int .i64 0, .string ⟨#[]⟩, .slice none 0 0] 29)) from (Below.refl _ _).alloc (Nat.le_refl _) _) hr)
  clear hr
  go_enter Tryd.func136, Tryd.ntmps136
  go_upto_region 1 with fail
  generalize w.alloc (.cells #[.int .i64 0, .int .i64 0, .string ⟨#[]⟩, .slice none 0 0] 29) = W1 at HB ⊢
  have z0 := cell_of_row _ _ 0 _ _ _ HB.out.2
  have z1 := cell_of_row _ _ 1 _ _ _ HB.out.2
  have z2 := cell_of_row _ _ 2 _ _ _ HB.out.2
  have z3 := cell_of_row _ _ 3 _ _ _ HB.out.2
  simp only [List.getElem?_toArray, List.getElem?_cons_zero, List.getElem?_cons_succ] at z0 z1 z2 z3
  have f0 := frozen_of_row _ _ 0 _ _ HB.out.2
  have f1 := frozen_of_row _ _ 1 _ _ HB.out.2
  have f2 := frozen_of_row _ _ 2 _ _ HB.out.2
  have f3 := frozen_of_row _ _ 3 _ _ HB.out.2
  go_wp2
  have ht := turned_setCells (g := w.heap.size) [.int .i64 1, .int .i64 n, .string ⟨#[]⟩, .slice none 0 0] W1 0
  have hres : (W1.setCells w.heap.size 0 [.int .i64 1, .int .i64 n, .string ⟨#[]⟩, .slice none 0 0]).heap[w.heap.size]? = some (.cells #[.int .i64 1, .int .i64 n, .string ⟨#[]⟩, .slice none 0 0] 29 (0, 0)) := by
    have := heap_setCells_mid (A := []) (B := [.int .i64 0, .int .i64 0, .string ⟨#[]⟩, .slice none 0 0]) (C := []) (vs := [.int .i64 1, .int .i64 n, .string ⟨#[]⟩, .slice none 0 0]) (o := 0) rfl rfl HB.out.2
    simpa using this
  have hb9 := HB.out.1.trans (ht.below (B := w.heap.size) HB.out.1.size (fun k hk => by omega))
  rw [setCells4] at hres hb9
  refine bodyPost_ret (results_cell_row rfl _ _ w.heap.size 29 #[.int .i64 1, .int .i64 n, .string ⟨#[]⟩, .slice none 0 0] (0, 0) _ rfl ?_ Tryd.underlying29 rfl (by kernel_rfl)) rfl ?_
  · exact hres
  exact ⟨rfl, hb9⟩

set_option maxRecDepth 100000 in
set_option maxHeartbeats 4000000 in
theorem l6Draw_low (w0 : World) (br : Nat) (a : Option Addr) (len cap : Nat) (bs : List Int) (hlen : len ≤ 2000)
    (n : Nat) (w : World) (p : Nat) (hn : n < 2) (hrd : Rd w0 w br a len cap bs p) (hp : p + costE n ≤ 1000000000) :
    Calls Tryd.prog 91 #[.pointer (some ⟨br, 0, none⟩), .int .i64 (n : Int)] w fun e w' => ExprDrawn w0 w br a len cap bs p (costE n) (n + 1) e w' := by
  have HP := Lib.hid hp
  have HR := Lib.hid (ResAt.start hrd)
  clear hrd hp
  obtain ⟨D, hD⟩ : ∃ D : Int, D = (n : Int) := ⟨_, rfl⟩
  rw [← hD]
  have hlt : decide (D < 2) = true := decide_eq_true (by omega)
  clear hD hn
  go_enter Tryd.func91, Tryd.ntmps91
  go_upto_region 1 with fail
  generalize w.alloc (.cells #[.int .i64 0, .int .i64 0, .string ⟨#[]⟩, .slice none 0 0] 29) = W1 at HR ⊢
  go_wp2_with fail
  refine (pick_any w0 _ br a len cap bs (p) 2 HR.out.rd (by omega) hlen (by have := HP.out; have := cost_ge n; omega)).mono ?_
  rintro e w4 ⟨u, _, _, rfl, hrd4, hg4⟩
  have HR4 := Lib.hid (HR.out.step (TurnR.grown hg4) hrd4)
  clear hrd4 hg4
  by_cases hu : u = 0
  · subst hu
    go_wp2_with fail
    refine (num_any w0 _ br a len cap bs (p + 1) w4.heap.size 7 7 [0, 1, 0, 1, 2, 255, 3] (HR4.out.rd.alloc _) (litI w4 [0, 1, 0, 1, 2, 255, 3]) (by have := HR4.out.rd.lt; omega) (by omega) hlen (by have := HP.out; have := cost_ge n; omega)).mono ?_
    rintro e w5 ⟨k, -, rfl, hrd5, hg5⟩
    have HR5 := Lib.hid ((HR4.out.alloc (.cells ([0, 1, 0, 1, 2, 255, 3].map (Value.int .i64)).toArray 3)).step (TurnR.grown hg5) hrd5)
    clear hrd5 hg5
    go_wp2_with fail
    refine (numS_any k _).mono ?_
    rintro e w6 ⟨rfl, hb6⟩
    have HR6 := Lib.hid (HR5.out.step (TurnR.below hb6) (HR5.out.rd.later' hb6))
    clear hb6
    have HQ := Lib.hid (show p + 1 + 1 ≤ p + costE n by have := cost_ge n; omega)
    have c0 := HR6.out.c0
    have c1 := HR6.out.c1
    have c2 := HR6.out.c2
    have c3 := HR6.out.c3
    have f0 := HR6.out.f 0
    have f1 := HR6.out.f 1
    have f2 := HR6.out.f 2
    have f3 := HR6.out.f 3
    go_wp2
    refine bodyPost_ret (results_cell_row rfl _ _ w.heap.size 29 #[.int .i64 1, .int .i64 k, .string ⟨#[]⟩, .slice none 0 0] (0, 0) _ rfl ?_ Tryd.underlying29 rfl (by kernel_rfl)) rfl ?_
    · exact HR6.out.put (cs := [.int .i64 1, .int .i64 k, .string ⟨#[]⟩, .slice none 0 0]) rfl
    have hdone := HR6.out.done (p := p) (P := costE n) (leafP 1 k ⟨#[]⟩ (by decide) n) (long_leaf n 1 k ⟨#[]⟩ (by decide)) HQ.out (TopG.leaf (n + 1) _ _ _ _ _ _)
    rw [setCells4] at hdone
    exact hdone
  have hu0 : (u == 0) = false := by simpa using hu
  clear hu
  go_wp2_with fail
  refine (of_any w0 _ br a len cap bs (p + 1) (some ⟨w4.heap.size, 0, none⟩) 2 2 [⟨#[97]⟩, ⟨#[98]⟩] (HR4.out.rd.alloc _) (StrsA.lit w4 [⟨#[97]⟩, ⟨#[98]⟩] HR4.out.rd.lt) (by omega) hlen (by have := HP.out; have := cost_ge n; omega)).mono ?_
  rintro e w5 ⟨s, hs, rfl, hrd5, hg5⟩
  have HS := Lib.hid (show s.size ≤ maxLen by simp at hs; rcases hs with rfl | rfl <;> decide)
  have HR5 := Lib.hid ((HR4.out.alloc (.cells ([⟨#[97]⟩, ⟨#[98]⟩].map Value.string).toArray 9)).step (TurnR.grown hg5) hrd5)
  have HQ := Lib.hid (show p + 1 + 1 ≤ p + costE n by have := cost_ge n; omega)
  clear hrd5 hg5 hs hu0
  have c0 := HR5.out.c0
  have c1 := HR5.out.c1
  have c2 := HR5.out.c2
  have c3 := HR5.out.c3
  have f0 := HR5.out.f 0
  have f1 := HR5.out.f 1
  have f2 := HR5.out.f 2
  have f3 := HR5.out.f 3
  go_wp2
  refine bodyPost_ret (results_cell_row rfl _ _ w.heap.size 29 #[.int .i64 2, .int .i64 0, .string s, .slice none 0 0] (0, 0) _ rfl ?_ Tryd.underlying29 rfl (by kernel_rfl)) rfl ?_
  · exact HR5.out.put (cs := [.int .i64 2, .int .i64 0, .string s, .slice none 0 0]) rfl
  have hdone := HR5.out.done (p := p) (P := costE n) (leafP 2 0 s (by decide) n) (long_leaf n 2 0 s HS.out) HQ.out (TopG.leaf (n + 1) _ _ _ _ _ _)
  rw [setCells4] at hdone
  exact hdone

set_option maxRecDepth 100000 in
set_option maxHeartbeats 4000000 in
theorem l6Draw_any (w0 : World) (br : Nat) (a : Option Addr) (len cap : Nat) (bs : List Int) (hlen : len ≤ 2000) :
    ∀ (n : Nat) (w : World) (p : Nat), n ≤ 100 → Rd w0 w br a len cap bs p → p + costE n ≤ 1000000000 →
    Calls Tryd.prog 91 #[.pointer (some ⟨br, 0, none⟩), .int .i64 (n : Int)] w fun e w' => ExprDrawn w0 w br a len cap bs p (costE n) (n + 1) e w' := by
  intro n
  induction n with
  | zero => exact fun w p _ hrd hp => l6Draw_low w0 br a len cap bs hlen 0 w p (by omega) hrd hp
  | succ m ih =>
    intro w p hn hrd hp
    by_cases hm : m = 0
    · exact l6Draw_low w0 br a len cap bs hlen (m + 1) w p (by omega) hrd hp
    have HP := Lib.hid hp
    have HR := Lib.hid (ResAt.start hrd)
    have HIH := Lib.hid ih
    have HM := Lib.hid (show m ≤ 99 by omega)
    have HC := Lib.hid (show costE (m + 1) = 2 * costE m + 4 from rfl)
    clear hrd hp ih
    obtain ⟨n, hn0⟩ : ∃ n : Nat, n = m + 1 := ⟨_, rfl⟩
    rw [← hn0] at HP HC ⊢
    obtain ⟨D, hD⟩ : ∃ D : Int, D = (n : Int) := ⟨_, rfl⟩
    rw [← hD]
    have hlt : decide (D < 2) = false := decide_eq_false (by omega)
    have hsub : wrap64 (D - 1) = (m : Int) := by rw [show D - 1 = (m : Int) by omega]; exact IntWalk.wrap64_in (m : Int) (by have := HM.out; omega)
    have HNM := Lib.hid hn0
    clear hD hn0 hm
    go_enter Tryd.func91, Tryd.ntmps91
    go_upto_region 1 with fail
    generalize w.alloc (.cells #[.int .i64 0, .int .i64 0, .string ⟨#[]⟩, .slice none 0 0] 29) = W1 at HR ⊢
    go_wp2_with fail
    refine (pick_any w0 _ br a len cap bs p 5 HR.out.rd (by omega) hlen (by have := HP.out; omega)).mono ?_
    rintro e w2 ⟨v, _, _, rfl, hrd2, hg2⟩
    have HR2 := Lib.hid (HR.out.step (TurnR.grown hg2) hrd2)
    clear hrd2 hg2 hlt
    by_cases hv : v = 0
    · subst hv
      go_wp2_with fail
      refine (pick_any w0 _ br a len cap bs (p + 1) 2 HR2.out.rd (by omega) hlen (by have := HP.out; have := cost_ge n; omega)).mono ?_
      rintro e w4 ⟨u, _, _, rfl, hrd4, hg4⟩
      have HR4 := Lib.hid (HR2.out.step (TurnR.grown hg4) hrd4)
      clear hrd4 hg4
      by_cases hu : u = 0
      · subst hu
        go_wp2_with fail
        refine (num_any w0 _ br a len cap bs (p + 1 + 1) w4.heap.size 7 7 [0, 1, 0, 1, 2, 255, 3] (HR4.out.rd.alloc _) (litI w4 [0, 1, 0, 1, 2, 255, 3]) (by have := HR4.out.rd.lt; omega) (by omega) hlen (by have := HP.out; have := cost_ge n; omega)).mono ?_
        rintro e w5 ⟨k, -, rfl, hrd5, hg5⟩
        have HR5 := Lib.hid ((HR4.out.alloc (.cells ([0, 1, 0, 1, 2, 255, 3].map (Value.int .i64)).toArray 3)).step (TurnR.grown hg5) hrd5)
        clear hrd5 hg5
        go_wp2_with fail
        refine (numS_any k _).mono ?_
        rintro e w6 ⟨rfl, hb6⟩
        have HR6 := Lib.hid (HR5.out.step (TurnR.below hb6) (HR5.out.rd.later' hb6))
        clear hb6
        have HQ := Lib.hid (show p + 1 + 1 + 1 ≤ p + costE n by have := cost_ge n; omega)
        have c0 := HR6.out.c0
        have c1 := HR6.out.c1
        have c2 := HR6.out.c2
        have c3 := HR6.out.c3
        have f0 := HR6.out.f 0
        have f1 := HR6.out.f 1
        have f2 := HR6.out.f 2
        have f3 := HR6.out.f 3
        go_wp2
        refine bodyPost_ret (results_cell_row rfl _ _ w.heap.size 29 #[.int .i64 1, .int .i64 k, .string ⟨#[]⟩, .slice none 0 0] (0, 0) _ rfl ?_ Tryd.underlying29 rfl (by kernel_rfl)) rfl ?_
        · exact HR6.out.put (cs := [.int .i64 1, .int .i64 k, .string ⟨#[]⟩, .slice none 0 0]) rfl
        have hdone := HR6.out.done (p := p) (P := costE n) (leafP 1 k ⟨#[]⟩ (by decide) n) (long_leaf n 1 k ⟨#[]⟩ (by decide)) HQ.out (TopG.leaf (n + 1) _ _ _ _ _ _)
        rw [setCells4] at hdone
        exact hdone
      have hu0 : (u == 0) = false := by simpa using hu
      clear hu
      go_wp2_with fail
      refine (of_any w0 _ br a len cap bs (p + 1 + 1) (some ⟨w4.heap.size, 0, none⟩) 2 2 [⟨#[97]⟩, ⟨#[98]⟩] (HR4.out.rd.alloc _) (StrsA.lit w4 [⟨#[97]⟩, ⟨#[98]⟩] HR4.out.rd.lt) (by omega) hlen (by have := HP.out; have := cost_ge n; omega)).mono ?_
      rintro e w5 ⟨s, hs, rfl, hrd5, hg5⟩
      have HS := Lib.hid (show s.size ≤ maxLen by simp at hs; rcases hs with rfl | rfl <;> decide)
      have HR5 := Lib.hid ((HR4.out.alloc (.cells ([⟨#[97]⟩, ⟨#[98]⟩].map Value.string).toArray 9)).step (TurnR.grown hg5) hrd5)
      have HQ := Lib.hid (show p + 1 + 1 + 1 ≤ p + costE n by have := cost_ge n; omega)
      clear hrd5 hg5 hs hu0
      have c0 := HR5.out.c0
      have c1 := HR5.out.c1
      have c2 := HR5.out.c2
      have c3 := HR5.out.c3
      have f0 := HR5.out.f 0
      have f1 := HR5.out.f 1
      have f2 := HR5.out.f 2
      have f3 := HR5.out.f 3
      go_wp2
      refine bodyPost_ret (results_cell_row rfl _ _ w.heap.size 29 #[.int .i64 2, .int .i64 0, .string s, .slice none 0 0] (0, 0) _ rfl ?_ Tryd.underlying29 rfl (by kernel_rfl)) rfl ?_
      · exact HR5.out.put (cs := [.int .i64 2, .int .i64 0, .string s, .slice none 0 0]) rfl
      have hdone := HR5.out.done (p := p) (P := costE n) (leafP 2 0 s (by decide) n) (long_leaf n 2 0 s HS.out) HQ.out (TopG.leaf (n + 1) _ _ _ _ _ _)
      rw [setCells4] at hdone
      exact hdone
    have hv0 : (v == 0) = false := by simpa using hv
    go_wp2_with fail
    refine (pick_any w0 _ br a len cap bs (p + 1) 4 HR2.out.rd (by omega) hlen (by have := HP.out; omega)).mono ?_
    rintro e w3 ⟨u, _, _, rfl, hrd3, hg3⟩
    have HR3 := Lib.hid (HR2.out.step (TurnR.grown hg3) hrd3)
    clear hrd3 hg3 hv0 hv
    by_cases hu : u = 0
    · subst hu
      go_wp2_with fail
      refine (num_any w0 _ br a len cap bs (p + 1 + 1) w3.heap.size 4 4 [11, 11, 11, 12] (HR3.out.rd.alloc _) (litI w3 [11, 11, 11, 12]) (by have := HR3.out.rd.lt; omega) (by omega) hlen (by have := HP.out; omega)).mono ?_
      rintro e w4 ⟨op, hop, rfl, hrd4, hg4⟩
      have HOP := Lib.hid (show 0 ≤ op ∧ op ≤ 13 by simp at hop; omega)
      have HR4 := Lib.hid ((HR3.out.alloc (.cells ([11, 11, 11, 12].map (Value.int .i64)).toArray 3)).step (TurnR.grown hg4) hrd4)
      clear hrd4 hg4 hop
      have HCALL := Lib.hid (HIH.out w4 (p + 1 + 1 + 1) (by have := HM.out; omega) HR4.out.rd (by have := HP.out; have := HC.out; omega))
      go_wp2_with fail
      refine HCALL.out.mono ?_
      rintro e w5 ⟨cs, x, q5, rfl, hrd5, hq5, ht5, hx5, hl5, -⟩
      obtain ⟨ka, kc, rfl⟩ := exprP_form hx5
      have HR5 := Lib.hid ((HR4.out.step ht5 hrd5).alloc (.cells #[.int .i64 x.op, .int .i64 x.n, .string x.name, .slice ka x.kids.length kc] 29))
      have HX5 := Lib.hid (show ExprP (n + 1) (fun k => w.heap.size < k) (w5.alloc (.cells #[.int .i64 x.op, .int .i64 x.n, .string x.name, .slice ka x.kids.length kc] 29)) [.int .i64 op, .int .i64 0, .string ⟨#[]⟩, .slice (some ⟨w5.heap.size, 0, none⟩) 1 1] (.mk op 0 ⟨#[]⟩ [x]) ∧ anyE longP (n + 1) (.mk op 0 ⟨#[]⟩ [x]) = false ∧ TopG (n + 1) (w.heap.size + 1) (w5.alloc (.cells #[.int .i64 x.op, .int .i64 x.n, .string x.name, .slice ka x.kids.length kc] 29)).heap.size (w5.alloc (.cells #[.int .i64 x.op, .int .i64 x.n, .string x.name, .slice ka x.kids.length kc] 29)) [.int .i64 op, .int .i64 0, .string ⟨#[]⟩, .slice (some ⟨w5.heap.size, 0, none⟩) 1 1] (.mk op 0 ⟨#[]⟩ [x]) by
        rw [HNM.out]
        refine ⟨oneP HOP.out (heap_alloc_new w5 _) (by have := (HR4.out.step ht5 hrd5).size; omega) (exprP_below ((Below.refl _ _).alloc (Nat.le_refl _) _) (exprP_mono (fun k _ h => by have := HR4.out.size; omega) hx5)), long_one hl5, (TopG.one (by have := (HR4.out.step ht5 hrd5).size; omega) (exprP_mono (fun k _ h => by have := HR4.out.size; omega) hx5)).wide (by omega) (Nat.le_refl _) (Nat.le_refl _)⟩)
      have HQ := Lib.hid (show q5 ≤ p + costE n by have := HC.out; omega)
      clear hrd5 hq5 ht5 hx5 hl5
      have c0 := HR5.out.c0
      have c1 := HR5.out.c1
      have c2 := HR5.out.c2
      have c3 := HR5.out.c3
      have f0 := HR5.out.f 0
      have f1 := HR5.out.f 1
      have f2 := HR5.out.f 2
      have f3 := HR5.out.f 3
      go_wp2
      refine bodyPost_ret (results_cell_row rfl _ _ w.heap.size 29 #[.int .i64 op, .int .i64 0, .string ⟨#[]⟩, .slice (some ⟨w5.heap.size, 0, none⟩) 1 1] (0, 0) _ rfl ?_ Tryd.underlying29 rfl (by kernel_rfl)) rfl ?_
      · exact HR5.out.put (cs := [.int .i64 op, .int .i64 0, .string ⟨#[]⟩, .slice (some ⟨w5.heap.size, 0, none⟩) 1 1]) rfl
      have hdone := HR5.out.done (p := p) (P := costE n) (HX5.out.1) (HX5.out.2.1) HQ.out (HX5.out.2.2)
      rw [setCells4] at hdone
      exact hdone
    have hu0 : (u == 0) = false := by simpa using hu
    go_wp2_with fail
    refine (num_any w0 _ br a len cap bs (p + 1 + 1) w3.heap.size 9 9 [3, 4, 5, 5, 6, 7, 8, 9, 10] (HR3.out.rd.alloc _) (litI w3 [3, 4, 5, 5, 6, 7, 8, 9, 10]) (by have := HR3.out.rd.lt; omega) (by omega) hlen (by have := HP.out; omega)).mono ?_
    rintro e w4 ⟨op, hop, rfl, hrd4, hg4⟩
    have HOP := Lib.hid (show 0 ≤ op ∧ op ≤ 13 by simp at hop; omega)
    have HR4 := Lib.hid ((HR3.out.alloc (.cells ([3, 4, 5, 5, 6, 7, 8, 9, 10].map (Value.int .i64)).toArray 3)).step (TurnR.grown hg4) hrd4)
    clear hrd4 hg4 hop hu0 hu
    have HCALL := Lib.hid (HIH.out w4 (p + 1 + 1 + 1) (by have := HM.out; omega) HR4.out.rd (by have := HP.out; have := HC.out; omega))
    go_wp2_with fail
    refine HCALL.out.mono ?_
    rintro e w5 ⟨cs, x, q5, rfl, hrd5, hq5, ht5, hx5, hl5, -⟩
    obtain ⟨ka, kc, rfl⟩ := exprP_form hx5
    have HR5 := Lib.hid (HR4.out.step ht5 hrd5)
    have HX5 := Lib.hid (And.intro (exprP_mono (S' := fun k => w.heap.size < k) (fun k _ h => by have := HR4.out.size; omega) hx5) (And.intro hl5 (show q5 ≤ p + 1 + 1 + 1 + costE m from hq5)))
    clear hrd5 hq5 ht5 hx5 hl5 HCALL
    have HCALL := Lib.hid (HIH.out w5 q5 (by have := HM.out; omega) HR5.out.rd (by have := HP.out; have := HC.out; have := HX5.out.2.2; omega))
    go_wp2_with fail
    refine HCALL.out.mono ?_
    rintro e w6 ⟨cs2, y, q6, rfl, hrd6, hq6, ht6, hy6, hl6, -⟩
    obtain ⟨ja, jc, rfl⟩ := exprP_form hy6
    have HR6 := Lib.hid ((HR5.out.step ht6 hrd6).alloc (.cells #[.int .i64 x.op, .int .i64 x.n, .string x.name, .slice ka x.kids.length kc, .int .i64 y.op, .int .i64 y.n, .string y.name, .slice ja y.kids.length jc] 29))
    have HX6 := Lib.hid (show ExprP (n + 1) (fun k => w.heap.size < k) (w6.alloc (.cells #[.int .i64 x.op, .int .i64 x.n, .string x.name, .slice ka x.kids.length kc, .int .i64 y.op, .int .i64 y.n, .string y.name, .slice ja y.kids.length jc] 29)) [.int .i64 op, .int .i64 0, .string ⟨#[]⟩, .slice (some ⟨w6.heap.size, 0, none⟩) 2 2] (.mk op 0 ⟨#[]⟩ [x, y]) ∧ anyE longP (n + 1) (.mk op 0 ⟨#[]⟩ [x, y]) = false ∧ TopG (n + 1) (w.heap.size + 1) (w6.alloc (.cells #[.int .i64 x.op, .int .i64 x.n, .string x.name, .slice ka x.kids.length kc, .int .i64 y.op, .int .i64 y.n, .string y.name, .slice ja y.kids.length jc] 29)).heap.size (w6.alloc (.cells #[.int .i64 x.op, .int .i64 x.n, .string x.name, .slice ka x.kids.length kc, .int .i64 y.op, .int .i64 y.n, .string y.name, .slice ja y.kids.length jc] 29)) [.int .i64 op, .int .i64 0, .string ⟨#[]⟩, .slice (some ⟨w6.heap.size, 0, none⟩) 2 2] (.mk op 0 ⟨#[]⟩ [x, y]) by
      rw [HNM.out]
      have hba : Below w6.heap.size w6 (w6.alloc (.cells #[.int .i64 x.op, .int .i64 x.n, .string x.name, .slice ka x.kids.length kc, .int .i64 y.op, .int .i64 y.n, .string y.name, .slice ja y.kids.length jc] 29)) := (Below.refl _ _).alloc (Nat.le_refl _) _
      refine ⟨twoP HOP.out (c1 := [.int .i64 x.op, .int .i64 x.n, .string x.name, .slice ka x.kids.length kc]) (heap_alloc_new w6 _) (by have := (HR5.out.step ht6 hrd6).size; omega) (exprP_below hba (ht6.expr HR.out.lt HX5.out.1)) (exprP_below hba (exprP_mono (fun k _ h => by have := HR5.out.size; omega) hy6)), long_two HX5.out.2.1 hl6, (TopG.two (c1 := [.int .i64 x.op, .int .i64 x.n, .string x.name, .slice ka x.kids.length kc]) (by have := (HR5.out.step ht6 hrd6).size; omega) (exprP_mono (fun k _ h => by omega) (ht6.expr HR.out.lt HX5.out.1)) (exprP_mono (fun k _ h => by have := HR5.out.size; omega) hy6)).wide (by omega) (Nat.le_refl _) (Nat.le_refl _)⟩)
    have HQ := Lib.hid (show q6 ≤ p + costE n by have := HC.out; have := HX5.out.2.2; omega)
    clear hrd6 hq6 ht6 hy6 hl6
    have c0 := HR6.out.c0
    have c1 := HR6.out.c1
    have c2 := HR6.out.c2
    have c3 := HR6.out.c3
    have f0 := HR6.out.f 0
    have f1 := HR6.out.f 1
    have f2 := HR6.out.f 2
    have f3 := HR6.out.f 3
    go_wp2
    refine bodyPost_ret (results_cell_row rfl _ _ w.heap.size 29 #[.int .i64 op, .int .i64 0, .string ⟨#[]⟩, .slice (some ⟨w6.heap.size, 0, none⟩) 2 2] (0, 0) _ rfl ?_ Tryd.underlying29 rfl (by kernel_rfl)) rfl ?_
    · exact HR6.out.put (cs := [.int .i64 op, .int .i64 0, .string ⟨#[]⟩, .slice (some ⟨w6.heap.size, 0, none⟩) 2 2]) rfl
    have hdone := HR6.out.done (p := p) (P := costE n) (HX6.out.1) (HX6.out.2.1) HQ.out (HX6.out.2.2)
    rw [setCells4] at hdone
    exact hdone

/-- An expression was drawn. -/
def SafeDrawn (w : World) (e : Ending) (w' : World) : Prop :=
  ∃ cs x, e = .returned (.agg (List.toArray cs)) ∧ ExprP 12 (fun k => w.heap.size ≤ k) w' cs x ∧ anyE longP 12 x = false ∧ Below w.heap.size w w'
theorem drawn_fin {w W1 : World} {br : Nat} {a : Option Addr} {len cap : Nat} {bs : List Int} (hw : Below w.heap.size w W1) (hrow : W1.heap[w.heap.size]? = some (.cells #[.int .i64 0, .int .i64 0, .string ⟨#[]⟩, .slice none 0 0] 29 (0, 0))) (hsz : W1.heap.size = w.heap.size + 1) :
    ∀ (w3 w4 : World) (d : Nat) (cs : List Value) (p q : Nat) (x : ExprD), Rd W1 w3 br a len cap bs p → Rd W1 w4 br a len cap bs q → ExprP d (fun k => w3.heap.size ≤ k) w4 cs x → anyE longP d x = false → d ≤ 12 →
    w4.heap[w.heap.size]? = some (.cells #[.int .i64 0, .int .i64 0, .string ⟨#[]⟩, .slice none 0 0] 29 (0, 0)) ∧ (w4.setCells w.heap.size 0 cs).heap[w.heap.size]? = some (.cells cs.toArray 29 (0, 0)) ∧ SafeDrawn w (.returned (.agg cs.toArray)) (w4.setCells w.heap.size 0 cs) := by
  intro w3 w4 d cs p q x h3 h4 hx hl hd
  have hr := (h4.below.block _ (by omega)).trans hrow
  have ht := turned_setCells (g := w.heap.size) cs w4 0
  have h3s := h3.below.size
  refine ⟨hr, ?_, cs, x, rfl, exprP_mono (fun k _ h1 => by omega) (exprP_le hd (exprP_turned ht (fun k _ h1 h2 => by omega) hx)), by rw [anyE_deep hx hd]; exact hl, ?_⟩
  · have := heap_setCells_mid (A := []) (B := [.int .i64 0, .int .i64 0, .string ⟨#[]⟩, .slice none 0 0]) (C := []) (vs := cs) (o := 0) rfl (by rw [exprP_len hx]; rfl) hr
    simpa using this
  · have hb := hw.trans (h4.below.mono hw.size)
    exact hb.trans (ht.below (B := w.heap.size) hb.size (fun k hk => by omega))
theorem safe_fin {w W1 w4 : World} {cs : List Value} {x : ExprD} (hw : Below w.heap.size w W1) (hrow : W1.heap[w.heap.size]? = some (.cells #[.int .i64 0, .int .i64 0, .string ⟨#[]⟩, .slice none 0 0] 29 (0, 0))) (hsz : W1.heap.size = w.heap.size + 1) (hx : ExprP 12 (fun k => W1.heap.size ≤ k) w4 cs x) (hl : anyE longP 12 x = false) (hb4 : Below W1.heap.size W1 w4) :
    w4.heap[w.heap.size]? = some (.cells #[.int .i64 0, .int .i64 0, .string ⟨#[]⟩, .slice none 0 0] 29 (0, 0)) ∧ (w4.setCells w.heap.size 0 cs).heap[w.heap.size]? = some (.cells cs.toArray 29 (0, 0)) ∧ SafeDrawn w (.returned (.agg cs.toArray)) (w4.setCells w.heap.size 0 cs) := by
  have hr := (hb4.block _ (by omega)).trans hrow
  have ht := turned_setCells (g := w.heap.size) cs w4 0
  refine ⟨hr, ?_, cs, x, rfl, exprP_mono (fun k _ h1 => by omega) (exprP_turned ht (fun k _ h1 h2 => by omega) hx), hl, ?_⟩
  · have := heap_setCells_mid (A := []) (B := [.int .i64 0, .int .i64 0, .string ⟨#[]⟩, .slice none 0 0]) (C := []) (vs := cs) (o := 0) rfl (by rw [exprP_len hx]; rfl) hr
    simpa using this
  · have hb := hw.trans (hb4.mono hw.size)
    exact hb.trans (ht.below (B := w.heap.size) hb.size (fun k hk => by omega))
set_option maxRecDepth 100000 in
set_option maxHeartbeats 4000000 in
theorem drawSafe_any (w : World) (a : Option Addr) (len cap : Nat) (bs : List Int) (hin : BytesRd w a len bs) (hcap : len ≤ cap) :
    Calls Tryd.prog 35 #[.slice a len cap] w fun e w' => SafeDrawn w e w' := by
  have hb0 : Below w.heap.size w (w.alloc (.cells #[.int .i64 0, .int .i64 0, .string ⟨#[]⟩, .slice none 0 0] 29)) := (Below.refl _ _).alloc (Nat.le_refl _) _
  have HB := Lib.hid (And.intro hb0 (And.intro (heap_alloc_new w (.cells #[.int .i64 0, .int .i64 0, .string ⟨#[]⟩, .slice none 0 0] 29)) (And.intro (hin.later hb0) (World.size_alloc w (.cells #[.int .i64 0, .int .i64 0, .string ⟨#[]⟩, .slice none 0 0] 29)))))
  clear hb0 hin
  go_enter Tryd.func35, Tryd.ntmps35
  go_upto_region 1 with fail
  generalize w.alloc (.cells #[.int .i64 0, .int .i64 0, .string ⟨#[]⟩, .slice none 0 0] 29) = W1 at HB ⊢
  go_wp2_with fail
  refine (open_any W1 a len cap bs HB.out.2.2.1 hcap).mono ?_
  rintro e w2 ⟨a1, len1, cap1, bs1, rfl, hrd2, hlen1, hsz2⟩
  obtain ⟨br, hbr⟩ : ∃ b, b = W1.heap.size := ⟨_, rfl⟩
  rw [← hbr] at hrd2 hsz2 ⊢
  have HRD := Lib.hid hrd2
  have HFIN := Lib.hid (drawn_fin (w := w) (W1 := W1) (br := br) (a := a1) (len := len1) (cap := cap1) (bs := bs1) HB.out.1 HB.out.2.1 HB.out.2.2.2)
  clear hbr hrd2 hsz2 hcap
  go_wp2_with fail
  refine (pick_any W1 _ br a1 len1 cap1 bs1 0 3 HRD.out (by omega) hlen1 (by omega)).mono ?_
  rintro e w3 ⟨v, _, _, rfl, hrd3, hg3⟩
  have HRD3 := Lib.hid hrd3
  clear hrd3 hg3
  by_cases hv : v = 0
  · subst hv
    go_wp2_with fail
    refine (l2Bent_any W1 _ br a1 len1 cap1 bs1 hlen1 (0 + 1) HRD3.out (by omega)).mono ?_
    rintro e w4 ⟨cs, x, q4, rfl, hrd4, hq4, ht4, hx4, hl4, -⟩
    obtain ⟨ka, kc, rfl⟩ := exprP_form hx4
    have HF := Lib.hid (HFIN.out w3 w4 12 _ _ q4 x HRD3.out hrd4 hx4 hl4 (by omega))
    clear hrd4 hq4 ht4 hx4 hl4
    have c0 := cell_of_row _ _ 0 _ _ _ HF.out.1
    have c1 := cell_of_row _ _ 1 _ _ _ HF.out.1
    have c2 := cell_of_row _ _ 2 _ _ _ HF.out.1
    have c3 := cell_of_row _ _ 3 _ _ _ HF.out.1
    simp only [List.getElem?_toArray, List.getElem?_cons_zero, List.getElem?_cons_succ] at c0 c1 c2 c3
    have f0 := frozen_of_row _ _ 0 _ _ HF.out.1
    have f1 := frozen_of_row _ _ 1 _ _ HF.out.1
    have f2 := frozen_of_row _ _ 2 _ _ HF.out.1
    have f3 := frozen_of_row _ _ 3 _ _ HF.out.1
    go_wp2
    have hput := HF.out.2.1
    have hdone := HF.out.2.2
    rw [setCells4] at hput hdone
    refine bodyPost_ret (results_cell_row rfl _ _ w.heap.size 29 _ (0, 0) _ rfl hput Tryd.underlying29 rfl (by kernel_rfl)) rfl ?_
    exact hdone
  · have hv0 : (v == 0) = false := by simpa using hv
    clear hv
    have HCALL := Lib.hid (l6Draw_any W1 br a1 len1 cap1 bs1 hlen1 4 w3 (0 + 1) (by omega) HRD3.out (by decide))
    go_wp2_with fail
    refine HCALL.out.mono ?_
    rintro e w4 ⟨cs, x, q4, rfl, hrd4, hq4, ht4, hx4, hl4, -⟩
    obtain ⟨ka, kc, rfl⟩ := exprP_form hx4
    have HF := Lib.hid (HFIN.out w3 w4 5 _ _ q4 x HRD3.out hrd4 hx4 hl4 (by omega))
    clear hrd4 hq4 ht4 hx4 hl4 HCALL
    have c0 := cell_of_row _ _ 0 _ _ _ HF.out.1
    have c1 := cell_of_row _ _ 1 _ _ _ HF.out.1
    have c2 := cell_of_row _ _ 2 _ _ _ HF.out.1
    have c3 := cell_of_row _ _ 3 _ _ _ HF.out.1
    simp only [List.getElem?_toArray, List.getElem?_cons_zero, List.getElem?_cons_succ] at c0 c1 c2 c3
    have f0 := frozen_of_row _ _ 0 _ _ HF.out.1
    have f1 := frozen_of_row _ _ 1 _ _ HF.out.1
    have f2 := frozen_of_row _ _ 2 _ _ HF.out.1
    have f3 := frozen_of_row _ _ 3 _ _ HF.out.1
    go_wp2
    have hput := HF.out.2.1
    have hdone := HF.out.2.2
    rw [setCells4] at hput hdone
    refine bodyPost_ret (results_cell_row rfl _ _ w.heap.size 29 _ (0, 0) _ rfl hput Tryd.underlying29 rfl (by kernel_rfl)) rfl ?_
    exact hdone

set_option maxRecDepth 100000 in
set_option maxHeartbeats 4000000 in
theorem drawFold_any (w : World) (a : Option Addr) (len cap : Nat) (bs : List Int) (hin : BytesRd w a len bs) (hcap : len ≤ cap) :
    Calls Tryd.prog 49 #[.slice a len cap] w fun e w' => SafeDrawn w e w' := by
  have hb0 : Below w.heap.size w (w.alloc (.cells #[.int .i64 0, .int .i64 0, .string ⟨#[]⟩, .slice none 0 0] 29)) := (Below.refl _ _).alloc (Nat.le_refl _) _
  have HB := Lib.hid (And.intro hb0 (And.intro (heap_alloc_new w (.cells #[.int .i64 0, .int .i64 0, .string ⟨#[]⟩, .slice none 0 0] 29)) (And.intro (hin.later hb0) (World.size_alloc w (.cells #[.int .i64 0, .int .i64 0, .string ⟨#[]⟩, .slice none 0 0] 29)))))
  clear hb0 hin
  go_enter Tryd.func49, Tryd.ntmps49
  go_upto_region 1 with fail
  generalize w.alloc (.cells #[.int .i64 0, .int .i64 0, .string ⟨#[]⟩, .slice none 0 0] 29) = W1 at HB ⊢
  go_wp2_with fail
  refine (drawSafe_any W1 a len cap bs HB.out.2.2.1 hcap).mono ?_
  rintro e w4 ⟨cs, x, rfl, hx4, hl4, hb4⟩
  obtain ⟨ka, kc, rfl⟩ := exprP_form hx4
  have HF := Lib.hid (safe_fin HB.out.1 HB.out.2.1 HB.out.2.2.2 hx4 hl4 hb4)
  clear hx4 hl4 hb4
  have c0 := cell_of_row _ _ 0 _ _ _ HF.out.1
  have c1 := cell_of_row _ _ 1 _ _ _ HF.out.1
  have c2 := cell_of_row _ _ 2 _ _ _ HF.out.1
  have c3 := cell_of_row _ _ 3 _ _ _ HF.out.1
  simp only [List.getElem?_toArray, List.getElem?_cons_zero, List.getElem?_cons_succ] at c0 c1 c2 c3
  have f0 := frozen_of_row _ _ 0 _ _ HF.out.1
  have f1 := frozen_of_row _ _ 1 _ _ HF.out.1
  have f2 := frozen_of_row _ _ 2 _ _ HF.out.1
  have f3 := frozen_of_row _ _ 3 _ _ HF.out.1
  go_wp2
  have hput := HF.out.2.1
  have hdone := HF.out.2.2
  rw [setCells4] at hput hdone
  refine bodyPost_ret (results_cell_row rfl _ _ w.heap.size 29 _ (0, 0) _ rfl hput Tryd.underlying29 rfl (by kernel_rfl)) rfl ?_
  exact hdone

end Go.Proofs.YtccfbnhlhjlmgaaDoor

/-
  SafeExpr (the reference's): the walk.
-/
namespace Go.Proofs.YtccfbnhlhjlmgaaDoor
open Go.RowKit
set_option linter.unusedVariables false

set_option maxRecDepth 100000 in
set_option maxHeartbeats 4000000 in
theorem l6Safe_any : ∀ (m : Nat) (cs : List Value) (x : ExprD) (w : World), sizeD nameD m x ≠ none → ExprAt m w cs x →
    Calls Tryd.prog 93 #[.agg cs.toArray] w fun e w' => e = .returned (.bool (!anyE unsafeP m x)) ∧ Below w.heap.size w w' := by
  intro m
  induction m with
  | zero => exact fun _ _ _ h => absurd rfl h
  | succ m ih =>
  intro cs x w hs hx
  have hkv : ∀ k ∈ x.kids, sizeD nameD m k ≠ none := fun k hk => by
    obtain ⟨m', hm, _, h1⟩ := size_parts hs
    cases hm
    exact h1 k hk
  have hl := head_kids (by obtain ⟨m', hm, hh, _⟩ := size_parts hs; exact hh)
  have hx2 := hx
  obtain ⟨ka, kc, rfl, ⟨hkl, -⟩, hks⟩ := hx2
  obtain ⟨R, hR⟩ : ∃ R, R = !anyE unsafeP (m + 1) x := ⟨_, rfl⟩
  rw [← hR]
  have HR := Lib.hid (show R = !(unsafeP x || x.kids.any (anyE unsafeP m)) from hR)
  have hba : Below w.heap.size w (w.alloc (.cells #[.int .i64 x.op, .int .i64 x.n, .string x.name, .slice ka x.kids.length kc] 29)) := (Below.refl _ _).alloc (Nat.le_refl _) _
  have HB := Lib.hid (And.intro hba (And.intro (heap_alloc_new w (.cells #[.int .i64 x.op, .int .i64 x.n, .string x.name, .slice ka x.kids.length kc] 29)) (hks.later (exprAt_lasts m) hba)))
  have HK := Lib.hid (And.intro hkv (And.intro hs hl))
  have HIH := Lib.hid ih
  clear hR hba hkv hs hl hx hks ih
  go_enter Tryd.func93, Tryd.ntmps93
  go_upto_region 1 with fail
  obtain ⟨b0, hb0⟩ : ∃ b, b = w.heap.size := ⟨_, rfl⟩
  generalize w.alloc (.cells #[.int .i64 x.op, .int .i64 x.n, .string x.name, .slice ka x.kids.length kc] 29) = W1 at HB ⊢
  have HB1 := Lib.hid HB.out.1
  have HB2 := Lib.hid HB.out.2.1
  have HKS := Lib.hid HB.out.2.2
  rw [← hb0] at HB2 ⊢
  clear hb0 HB
  have e0 := cell_of_row _ _ 0 _ _ _ HB2.out
  have e3 := cell_of_row _ _ 3 _ _ _ HB2.out
  simp only [List.getElem?_toArray, List.getElem?_cons_zero, List.getElem?_cons_succ] at e0 e3
  by_cases h12 : x.op = 12
  · have HC := Lib.hid (show false = R by rw [HR.out, unsafeP, h12]; rfl)
    rw [h12] at e0
    clear h12
    go_wp2
    go_ret
    exact ⟨ret_bool HC.out, HB1.out⟩
  by_cases h13 : x.op = 13
  · have HC := Lib.hid (show false = R by rw [HR.out, unsafeP, h13]; rfl)
    rw [h13] at e0
    clear h12 h13
    go_wp2
    go_ret
    exact ⟨ret_bool HC.out, HB1.out⟩
  have a1 : (x.op == 12) = false := by simpa using h12
  have a3 : (x.op == 13) = false := by simpa using h13
  clear h12 h13
  cases hu : unsafeP x with
  | true =>
    have HC := Lib.hid (show false = R by rw [HR.out, hu]; rfl)
    have h67 : x.op = 6 ∨ x.op = 7 := by
      rw [unsafeP, a1, a3] at hu
      simp only [Bool.false_or, Bool.and_eq_true, Bool.or_eq_true, beq_iff_eq] at hu
      exact hu.1
    have hl := unsafe_two HK.out.2.1 h67
    obtain ⟨b1, o1, k, cs1, rfl, hk, hkR, k1', k2', rfl, c0, c1, c2, c3⟩ := kid_place HKS.out (show 1 < x.kids.length by omega)
    have hkd : x.kids.getD 1 default = k := by rw [List.getD_eq_getElem?_getD, hk]; rfl
    have hu2 : ¬ (k.op = 1 ∧ ¬ k.n = 0) := by
      rw [unsafeP, a1, a3, hkd] at hu
      simp only [Bool.false_or, Bool.and_eq_true, Bool.or_eq_true, beq_iff_eq] at hu
      have h2 := hu.2
      rintro ⟨h3, h4⟩
      rw [h3] at h2
      simp [h4] at h2
    have hix : (1 : Int) < (x.kids.length : Int) := by omega
    rw [Nat.one_mul] at c0 c1 c2 c3
    clear hkR hk hkd hl hu
    by_cases hk1 : k.op = 1
    · have hk0 : k.n = 0 := by
        by_cases h : k.n = 0
        · exact h
        · exact absurd ⟨hk1, h⟩ hu2
      rw [hk1] at c0
      rw [hk0] at c1
      clear hu2 hk1 hk0
      rcases h67 with h | h
      · rw [h] at e0
        clear h a1 a3
        go_wp2
        go_ret
        exact ⟨ret_bool HC.out, HB1.out⟩
      · rw [h] at e0
        clear h a1 a3
        go_wp2
        go_ret
        exact ⟨ret_bool HC.out, HB1.out⟩
    · have b1' : (k.op == 1) = false := by simpa using hk1
      have b2' : (k.op != 1) = true := by simpa using hk1
      clear hu2 hk1
      rcases h67 with h | h
      · rw [h] at e0
        clear h a1 a3
        go_wp2
        go_ret
        exact ⟨ret_bool HC.out, HB1.out⟩
      · rw [h] at e0
        clear h a1 a3
        go_wp2
        go_ret
        exact ⟨ret_bool HC.out, HB1.out⟩
  | false =>
    have HC := Lib.hid (show R = !(x.kids.any (anyE unsafeP m)) by rw [HR.out, hu]; rfl)
    have HU := Lib.hid hu
    clear hu
    go_upto_region 3 with fail
    go_cut [35] (fun v wx => wx = W1 ∧ v = .bool false)
    case first =>
      by_cases h67 : x.op = 6 ∨ x.op = 7
      · have hl := unsafe_two HK.out.2.1 h67
        obtain ⟨b1, o1, k, cs1, rfl, hk, hkR, k1', k2', rfl, c0, c1, c2, c3⟩ := kid_place HKS.out (show 1 < x.kids.length by omega)
        have hkd : x.kids.getD 1 default = k := by rw [List.getD_eq_getElem?_getD, hk]; rfl
        have hu2 : k.op = 1 ∧ ¬ k.n = 0 := by
          have hu := HU.out
          rw [unsafeP, a1, a3, hkd] at hu
          have h67' : ((x.op == 6) || (x.op == 7)) = true := by simpa using h67
          rw [h67'] at hu
          simpa using hu
        have hix : (1 : Int) < (x.kids.length : Int) := by omega
        rw [Nat.one_mul] at c0 c1 c2 c3
        rw [hu2.1] at c0
        have b1' : (k.n == 0) = false := by simpa using hu2.2
        clear hkR hk hkd hl hu2
        rcases h67 with h | h
        · rw [h] at e0
          clear h a1 a3
          go_wp2_with fail
          go_meet
          exact ⟨rfl, rfl⟩
        · rw [h] at e0
          clear h a1 a3
          go_wp2_with fail
          go_meet
          exact ⟨rfl, rfl⟩
      · have a5 : (x.op == 6) = false := by simpa using (fun h => h67 (.inl h))
        have a7 : (x.op == 7) = false := by simpa using (fun h => h67 (.inr h))
        clear h67
        go_wp2_with fail
        go_meet
        exact ⟨rfl, rfl⟩
    case rest =>
      obtain ⟨rfl, rfl⟩ := hcut
      have hkl2 : x.kids.length ≤ 9223372036854775807 := by unfold maxLen at hkl; omega
      go_wp2_with fail
      go_loopg [3] x.kids.length (fun G i wr => ∃ (j : Nat), j + G = x.kids.length ∧ i = .int .i64 j ∧ Hid ((x.kids.take j).any (anyE unsafeP m) = false ∧ Below wc.heap.size wc wr))
      case atStart => exact ⟨0, by omega, rfl, Lib.hid ⟨rfl, Below.refl _ _⟩⟩
      case round =>
        obtain ⟨j, hj, rfl, HR2⟩ := hrel
        have g0 := cell_later HR2.out.2 e0
        have g3 := cell_later HR2.out.2 e3
        by_cases hlt : j < x.kids.length
        · obtain ⟨b1, o1, k, cs1, rfl, hk, hkR, k1, k2, rfl, c0, c1, c2, c3⟩ := kid_place HKS.out hlt
          have hki : (j : Int) < (x.kids.length : Int) := by omega
          have d0 := cell_later HR2.out.2 c0
          have d1 := cell_later HR2.out.2 c1
          have d2 := cell_later HR2.out.2 c2
          have d3 := cell_later HR2.out.2 c3
          have HT := Lib.hid (show x.kids.take (j + 1) = x.kids.take j ++ [k] from take_succ_of hk)
          have hQ := HIH.out _ k wr (HK.out.1 k (List.mem_of_getElem? hk)) (exprAt_lasts m _ _ _ _ HR2.out.2 hkR)
          have HM := Lib.hid (List.mem_of_getElem? hk)
          clear hkR hk c0 c1 c2 c3
          cases hak : anyE unsafeP m k with
          | true =>
            rw [hak] at hQ
            have HQ := Lib.hid hQ
            have HF := Lib.hid (show false = R by rw [HC.out, (List.any_eq_true.2 ⟨k, HM.out, hak⟩ : x.kids.any (anyE unsafeP m) = true)]; rfl)
            clear hQ hak
            go_wp2_with fail
            refine HQ.out.mono ?_
            rintro e w5 ⟨rfl, hb5⟩
            have HB5 := Lib.hid (HB1.out.trans ((HR2.out.2.trans (hb5.mono HR2.out.2.size)).mono HB1.out.size))
            clear hb5 g0 g3 d0 d1 d2 d3
            go_wp2
            go_ret
            exact ⟨ret_bool HF.out, HB5.out⟩
          | false =>
            rw [hak] at hQ
            have HQ := Lib.hid hQ
            have HAK := Lib.hid hak
            clear hQ hak
            go_wp2_with fail
            refine HQ.out.mono ?_
            rintro e w5 ⟨rfl, hb5⟩
            have HB5 := Lib.hid (HR2.out.2.trans (hb5.mono HR2.out.2.size))
            clear hb5 g0 g3 d0 d1 d2 d3
            go_wp2
            go_roundg (gk - 1)
            case measure => omega
            case rel => exact ⟨j + 1, by omega, by go_num, Lib.hid ⟨by rw [HT.out, List.any_append, HR2.out.1]; simpa using HAK.out, HB5.out⟩⟩
        · obtain rfl : j = x.kids.length := by omega
          have HF := Lib.hid (show true = R by
            have h1 := HR2.out.1
            rw [List.take_length] at h1
            rw [HC.out, h1]; rfl)
          have HB5 := Lib.hid (HB1.out.trans (HR2.out.2.mono HB1.out.size))
          go_wp2
          go_ret
          exact ⟨ret_bool HF.out, HB5.out⟩

set_option maxHeartbeats 1000000 in
theorem safeExprS_any (d : Nat) (cs : List Value) (x : ExprD) (w : World) (hx : ExprAt d w cs x) (hN : anyE longP d x = false) :
    Calls Tryd.prog 37 #[.agg cs.toArray] w fun e w' => e = .returned (.bool (safeD x)) ∧ Below w.heap.size w w' := by
  obtain ⟨xa, xc, rfl⟩ := exprAt_form hx
  obtain ⟨R, hR⟩ : ∃ R, R = safeD x := ⟨_, rfl⟩
  rw [← hR]
  have HR := Lib.hid hR
  clear hR
  have hba : Below w.heap.size w (w.alloc (.cells #[.int .i64 x.op, .int .i64 x.n, .string x.name, .slice xa x.kids.length xc] 29)) := (Below.refl _ _).alloc (Nat.le_refl _) _
  have hrow := heap_alloc_new w (.cells #[.int .i64 x.op, .int .i64 x.n, .string x.name, .slice xa x.kids.length xc] 29)
  have HB := Lib.hid (And.intro hba (And.intro hrow (exprAt_lasts d _ _ _ _ hba hx)))
  have hV := exprValidS_any d _ x _ (exprAt_lasts d _ _ _ _ hba hx) hN
  clear hba hrow hx
  go_enter Tryd.func37, Tryd.ntmps37
  go_upto_region 1 with fail
  generalize w.alloc (.cells #[.int .i64 x.op, .int .i64 x.n, .string x.name, .slice xa x.kids.length xc] 29) = W1 at HB hV ⊢
  have e0 := cell_of_row _ _ 0 _ _ _ HB.out.2.1
  have e1 := cell_of_row _ _ 1 _ _ _ HB.out.2.1
  have e2 := cell_of_row _ _ 2 _ _ _ HB.out.2.1
  have e3 := cell_of_row _ _ 3 _ _ _ HB.out.2.1
  simp only [List.getElem?_toArray, List.getElem?_cons_zero, List.getElem?_cons_succ] at e0 e1 e2 e3
  cases hv : (sizeD nameD 6 x).isSome with
  | false =>
    rw [hv] at hV
    have HV := Lib.hid hV
    have HR2 := Lib.hid (show false = R by rw [HR.out, safeD, hv]; rfl)
    clear hV hv
    go_wp2_with fail
    refine HV.out.mono ?_
    rintro e w2 ⟨rfl, hb2⟩
    have HB2 := Lib.hid (HB.out.1.trans (hb2.mono HB.out.1.size))
    clear hb2 e0 e1 e2 e3
    go_wp2
    go_ret
    exact ⟨ret_bool HR2.out, HB2.out⟩
  | true =>
    rw [hv] at hV
    have HV := Lib.hid hV
    have hs : sizeD nameD 6 x ≠ none := fun h => by rw [h] at hv; cases hv
    have HR2 := Lib.hid (And.intro (show (!anyE unsafeP 6 x) = R by rw [HR.out, safeD, hv]; rfl) (And.intro hs (exprAt_fit hs HB.out.2.2)))
    clear hV hv hs
    go_wp2_with fail
    refine HV.out.mono ?_
    rintro e w2 ⟨rfl, hb2⟩
    have HB2 := Lib.hid (HB.out.1.trans (hb2.mono HB.out.1.size))
    have k0 := cell_later hb2 e0
    have k1 := cell_later hb2 e1
    have k2 := cell_later hb2 e2
    have k3 := cell_later hb2 e3
    have hS := l6Safe_any 6 _ x w2 HR2.out.2.1 (exprAt_lasts 6 _ _ _ _ hb2 HR2.out.2.2)
    rw [HR2.out.1] at hS
    have HS := Lib.hid hS
    clear hb2 e0 e1 e2 e3 hS HV
    go_wp2_with fail
    refine HS.out.mono ?_
    rintro e w3 ⟨rfl, hb3⟩
    have HB3 := Lib.hid (HB2.out.trans (hb3.mono HB2.out.size))
    clear hb3 k0 k1 k2 k3
    go_wp2
    go_ret
    exact ⟨rfl, HB3.out⟩

end Go.Proofs.YtccfbnhlhjlmgaaDoor

/-
  Folding (the program's): fold and FoldExpr.
-/
namespace Go.Proofs.YtccfbnhlhjlmgaaDoor
open Go.RowKit
set_option linter.unusedVariables false

set_option maxRecDepth 100000 in
set_option maxHeartbeats 4000000 in
theorem foldW_any : ∀ (m : Nat) (S : Nat → Prop) (cs : List Value) (x : ExprD) (w : World), OpsAt w → KeysAt w → sizeD nameD m x ≠ none → ExprP m S w cs x → (∀ k, S k → k < w.heap.size) →
    Calls Tryd.prog 95 #[.agg cs.toArray] w fun e w' => ∃ cs', e = .returned (.agg (List.toArray cs')) ∧ ExprP m (fun k => S k ∨ w.heap.size ≤ k) w' cs' (foldD m x) ∧ Below w.heap.size w w' := by
  intro m
  induction m with
  | zero => exact fun _ _ _ _ _ _ h => absurd rfl h
  | succ m ih =>
  intro S cs x w hO hKy hs hx hS
  have hkv : ∀ k ∈ x.kids, sizeD nameD m k ≠ none := fun k hk => by
    obtain ⟨m', hm, _, h1⟩ := size_parts hs
    cases hm
    exact h1 k hk
  have hlen : x.kids.length ≤ 3 := by
    obtain ⟨m', hm, hh, _⟩ := size_parts hs
    exact head_kids hh
  have hmv := mapped_valid (d := m) hs
  obtain ⟨ka, kc, rfl, ⟨_, hop⟩, hks⟩ := hx
  obtain ⟨op, n, name, kids⟩ := x
  simp only [ExprD.op, ExprD.n, ExprD.name, ExprD.kids] at *
  have HT := Lib.hid (TwoE.start w op n name (.slice ka kids.length kc))
  have HK := Lib.hid (And.intro hkv (And.intro hks (And.intro hS (And.intro hop hlen))))
  have HC := Lib.hid (And.intro hO (And.intro hKy hmv))
  have HIH := Lib.hid ih
  clear hs hkv hks hS hop hlen hO hKy hmv ih
  obtain ⟨y, hy⟩ : ∃ y, y = partF (.mk op n name (kids.map (foldD m))) := ⟨_, rfl⟩
  have HY := Lib.hid hy
  have HYR := Lib.hid (show foldD (m + 1) (.mk op n name kids) = y from hy.symm ▸ rfl)
  clear hy
  show Calls _ _ #[.agg #[.int .i64 op, .int .i64 n, .string name, .slice ka kids.length kc]] w _
  rw [HYR.out]
  go_enter Tryd.func95, Tryd.ntmps95
  go_upto_region 1 with fail
  generalize (w.alloc (.cells #[.int .i64 op, .int .i64 n, .string name, .slice ka kids.length kc] 29)).alloc (.cells #[.int .i64 0, .int .i64 0, .string ⟨#[]⟩, .slice none 0 0] 29) = W1 at HT ⊢
  have p3 := HT.out.p3
  have HM := Lib.hid (mapped_any 95 #[] S m m (foldD m) ka kc kids W1 (listP_turned (T := fun k => w.heap.size ≤ k) HK.out.2.1 (turned_of_below HT.out.below (fun k h1 _ => h1)) (fun k h1 _ h2 => by omega) (fun _ _ _ h => exprP_below HT.out.below h)) (fun k h => Nat.lt_of_lt_of_le (HK.out.2.2.1 k h) HT.out.below.size) (by have := HK.out.2.2.2.2; omega) ⟨fun v W => by kernel_rfl, fun y hy cs' W hW hyx => by
      have hbW := HT.out.below.trans (hW.mono HT.out.below.size)
      exact HIH.out S cs' y W (HC.out.1.later hbW) (HC.out.2.1.later hbW) (HK.out.1 y hy) hyx (fun k h => Nat.lt_of_lt_of_le (HK.out.2.2.1 k h) hbW.size)⟩)
  go_wp2_with fail
  refine HM.out.mono ?_
  rintro e w2 ⟨a', c', rfl, hl2, hb2⟩
  have HT2 := Lib.hid (HT.out.later hb2)
  have HL := Lib.hid hl2
  have q3 := HT2.out.p3
  have qf := HT2.out.pf 3
  clear hb2 hl2 p3 HM
  go_upto_region 2 with fail
  have HT3 := Lib.hid (HT2.out.setP (.slice a' kids.length c'))
  have HL3 := Lib.hid (listP_turned (T := fun k => k = w.heap.size) HL.out (turned_store w2 w.heap.size 3 (.slice a' kids.length c')) (fun k h1 h2 h3 => by subst h3; rcases h2 with h2 | h2; exact absurd (HK.out.2.2.1 _ h2) (by omega); have := HT.out.size; omega) (fun _ _ _ h => exprP_turned (turned_store w2 w.heap.size 3 (.slice a' kids.length c')) (fun k h1 h2 h3 => by subst h3; rcases h2 with h2 | h2; exact absurd (HK.out.2.2.1 _ h2) (by omega); have := HT.out.size; omega) h))
  clear q3 qf
  generalize w2.setCell ⟨w.heap.size, 3, none⟩ (.slice a' kids.length c') = W3 at HT3 HL3 ⊢
  have p0 := HT3.out.p0
  have p1 := HT3.out.p1
  have p2 := HT3.out.p2
  have p3 := HT3.out.p3
  have hlm : (kids.map (foldD m)).length = kids.length := List.length_map _
  have hx3 : ExprP (m + 1) (fun k => (S k ∨ w.heap.size + 2 ≤ k) ∧ k < W3.heap.size) W3 [.int .i64 op, .int .i64 n, .string name, .slice a' kids.length c'] (.mk op n name (kids.map (foldD m))) :=
    exprP_here ⟨a', c', by show _ = [_, _, _, Value.slice a' (kids.map (foldD m)).length c']; rw [hlm]; rfl, ⟨by show (kids.map (foldD m)).length ≤ maxLen; rw [hlm]; exact Nat.le_trans HK.out.2.2.2.2 (by decide), HK.out.2.2.2.1⟩, HL3.out.mono (fun _ _ _ h => exprP_mono (fun k _ h => h.elim .inl (fun h => .inr (Nat.le_trans HT.out.size h))) h) (fun k _ h => h.elim .inl (fun h => .inr (Nat.le_trans HT.out.size h)))⟩
  have HFP := Lib.hid (foldPart_any (m + 1) _ _ _ W3 (HC.out.1.later HT3.out.below) (HC.out.2.1.later HT3.out.below) HC.out.2.2 hx3 (fun k h => h.2))
  rw [← HY.out] at HFP
  clear hx3 hlm
  go_wp2_with fail
  refine HFP.out.mono ?_
  rintro e w4 ⟨cs4, rfl, hx4, hb4⟩
  have HF := Lib.hid (exprP_form hx4)
  have HT4 := Lib.hid (HT3.out.later hb4)
  have HX4 := Lib.hid hx4
  obtain ⟨ya, yc, hcs⟩ := HF.out
  subst hcs
  clear hx4 hb4 HF p0 p1 p2 p3 HFP
  have z0 := HT4.out.z0
  have z1 := HT4.out.z1
  have z2 := HT4.out.z2
  have z3 := HT4.out.z3
  have f0 := HT4.out.zf 0
  have f1 := HT4.out.zf 1
  have f2 := HT4.out.zf 2
  have f3 := HT4.out.zf 3
  go_wp2
  have hput := HT4.out.put (cs := [.int .i64 y.op, .int .i64 y.n, .string y.name, .slice ya y.kids.length yc]) rfl
  have hdone := HT4.out.done (fun k h => h.1.elim (fun h => .inl (HK.out.2.2.1 k h)) .inr) HX4.out
  rw [setCells4'] at hput hdone
  refine bodyPost_ret (results_cell_row rfl _ _ (w.heap.size + 1) 29 #[.int .i64 y.op, .int .i64 y.n, .string y.name, .slice ya y.kids.length yc] (0, 0) _ rfl ?_ Tryd.underlying29 rfl (by kernel_rfl)) rfl ?_
  · exact hput
  exact ⟨_, rfl, exprP_mono (fun k _ h => h.1.elim .inl (fun h => .inr (by omega))) hdone.1, hdone.2⟩

/-- What FoldExpr answers. -/
def foldE (x : ExprD) : ExprD := if (sizeD nameD 6 x).isSome then foldD 6 x else .mk 0 0 ⟨#[]⟩ []
set_option maxRecDepth 100000 in
set_option maxHeartbeats 4000000 in
theorem foldExpr_any (d : Nat) (S : Nat → Prop) (cs : List Value) (x : ExprD) (w : World) (hO : OpsAt w) (hK : KeysAt w) (hx : ExprP d S w cs x) (hS : ∀ k, S k → k < w.heap.size) :
    Calls Tryd.prog 39 #[.agg cs.toArray] w fun e w' => ∃ cs', e = .returned (.tuple #[.agg (List.toArray cs'), .bool (sizeD nameD 6 x).isSome]) ∧ ExprP 6 (fun k => S k ∨ w.heap.size ≤ k) w' cs' (foldE x) ∧ Below w.heap.size w w' := by
  obtain ⟨xa, xc, rfl⟩ := exprP_form hx
  obtain ⟨y, hy⟩ : ∃ y, y = foldE x := ⟨_, rfl⟩
  have HY := Lib.hid hy
  rw [← hy]
  clear hy
  obtain ⟨bv, hbv⟩ : ∃ b, b = (sizeD nameD 6 x).isSome := ⟨_, rfl⟩
  rw [← hbv]
  have HBV := Lib.hid hbv
  clear hbv
  have HT := Lib.hid (TwoE.start w x.op x.n x.name (.slice xa x.kids.length xc))
  have HI := Lib.hid (And.intro hx (And.intro hS (And.intro hO hK)))
  clear hx hS hO hK
  go_enter Tryd.func39, Tryd.ntmps39
  go_upto_region 1 with fail
  generalize (w.alloc (.cells #[.int .i64 x.op, .int .i64 x.n, .string x.name, .slice xa x.kids.length xc] 29)).alloc (.cells #[.int .i64 0, .int .i64 0, .string ⟨#[]⟩, .slice none 0 0] 29) = W1 at HT ⊢
  have p0 := HT.out.p0
  have p1 := HT.out.p1
  have p2 := HT.out.p2
  have p3 := HT.out.p3
  have hV := exprValidN_any d _ x W1 (HI.out.2.2.1.later HT.out.below) (HI.out.2.2.2.later HT.out.below) (exprP_at (exprP_below HT.out.below HI.out.1))
  cases hv : (sizeD nameD 6 x).isSome with
  | false =>
    rw [hv] at hV
    have HB2 := Lib.hid (HBV.out.trans hv)
    have HV := Lib.hid hV
    have HYE := Lib.hid (show y = .mk 0 0 ⟨#[]⟩ [] by rw [HY.out, foldE, hv]; rfl)
    clear hV hv
    go_wp2_with fail
    refine HV.out.mono ?_
    rintro e w2 ⟨rfl, hb2⟩
    have HT2 := Lib.hid (HT.out.later hb2)
    clear hb2 p0 p1 p2 p3
    have z0 := HT2.out.z0
    have z1 := HT2.out.z1
    have z2 := HT2.out.z2
    have z3 := HT2.out.z3
    have f0 := HT2.out.zf 0
    have f1 := HT2.out.zf 1
    have f2 := HT2.out.zf 2
    have f3 := HT2.out.zf 3
    go_wp2
    have hput := HT2.out.put (cs := [.int .i64 0, .int .i64 0, .string ⟨#[]⟩, .slice none 0 0]) rfl
    have hdone := HT2.out.done (S := fun _ => False) (fun _ h => h.elim) (leafP (w := w2) (S := fun _ => False) 0 0 ⟨#[]⟩ (by decide) 5)
    rw [setCells4'] at hput hdone
    refine bodyPost_ret (results_cell2 rfl _ _ (w.heap.size + 1) 29 #[.int .i64 0, .int .i64 0, .string ⟨#[]⟩, .slice none 0 0] (0, 0) _ rfl ?_ Tryd.underlying29 rfl (by kernel_rfl)) rfl ?_
    · exact hput
    exact ⟨_, (by rw [HB2.out] <;> rfl), by rw [HYE.out]; exact exprP_mono (fun k _ h => h.elim) hdone.1, hdone.2⟩
  | true =>
    rw [hv] at hV
    have HB2 := Lib.hid (HBV.out.trans hv)
    have HV := Lib.hid hV
    have hs : sizeD nameD 6 x ≠ none := fun h => by rw [h] at hv; cases hv
    have HYE := Lib.hid (And.intro (show y = foldD 6 x by rw [HY.out, foldE, hv]; rfl) hs)
    clear hV hv hs
    go_wp2_with fail
    refine HV.out.mono ?_
    rintro e w2 ⟨rfl, hb2⟩
    have HT2 := Lib.hid (HT.out.later hb2)
    clear hb2 p0 p1 p2 p3
    have p0 := HT2.out.p0
    have p1 := HT2.out.p1
    have p2 := HT2.out.p2
    have p3 := HT2.out.p3
    have HFD := Lib.hid (foldW_any 6 S _ x w2 (HI.out.2.2.1.later HT2.out.below) (HI.out.2.2.2.later HT2.out.below) HYE.out.2 (exprP_fit HYE.out.2 (exprP_below HT2.out.below HI.out.1)) (fun k h => Nat.lt_of_lt_of_le (HI.out.2.1 k h) HT2.out.below.size))
    rw [← HYE.out.1] at HFD
    go_wp2_with fail
    refine HFD.out.mono ?_
    rintro e w4 ⟨cs4, rfl, hx4, hb4⟩
    have HF := Lib.hid (exprP_form hx4)
    have HT4 := Lib.hid (HT2.out.later hb4)
    have HX4 := Lib.hid hx4
    obtain ⟨ya, yc, hcs⟩ := HF.out
    subst hcs
    clear hx4 hb4 HF p0 p1 p2 p3 HFD
    have z0 := HT4.out.z0
    have z1 := HT4.out.z1
    have z2 := HT4.out.z2
    have z3 := HT4.out.z3
    have f0 := HT4.out.zf 0
    have f1 := HT4.out.zf 1
    have f2 := HT4.out.zf 2
    have f3 := HT4.out.zf 3
    go_wp2
    have hput := HT4.out.put (cs := [.int .i64 y.op, .int .i64 y.n, .string y.name, .slice ya y.kids.length yc]) rfl
    have hdone := HT4.out.done (fun k (h : S k ∨ w2.heap.size ≤ k) => h.elim (fun h => .inl (HI.out.2.1 k h)) (fun h => .inr (Nat.le_trans HT2.out.size h))) HX4.out
    rw [setCells4'] at hput hdone
    refine bodyPost_ret (results_cell2 rfl _ _ (w.heap.size + 1) 29 #[.int .i64 y.op, .int .i64 y.n, .string y.name, .slice ya y.kids.length yc] (0, 0) _ rfl ?_ Tryd.underlying29 rfl (by kernel_rfl)) rfl ?_
    · exact hput
    exact ⟨_, (by rw [HB2.out] <;> rfl), exprP_mono (fun k _ (h : S k ∨ w2.heap.size ≤ k) => h.elim .inl (fun h => .inr (by have := HT2.out.size; omega))) hdone.1, hdone.2⟩

end Go.Proofs.YtccfbnhlhjlmgaaDoor
