/-
  The reference draws expressions (l2Expr). (printed by mkdr2.py)
-/
import Derived.Test.YtccdmgncjlpebaaDoorDr1

namespace Go.Proofs.YtccdmgncjlpebaaDoor
open Go.RowKit
set_option linter.unusedVariables false

theorem setCells4 (w : World) (g : Nat) (v0 v1 v2 v3 : Value) : w.setCells g 0 [v0, v1, v2, v3] = (((w.setCell ⟨g, 0, none⟩ v0).setCell ⟨g, 1, none⟩ v1).setCell ⟨g, 2, none⟩ v2).setCell ⟨g, 3, none⟩ v3 := rfl
/-- How often is drawn at most, for an expression so deep. -/
def costE : Nat → Nat
  | 0 => 4
  | n + 1 => 2 * costE n + 4
theorem cost_ge (n : Nat) : 4 ≤ costE n := by
  cases n with
  | zero => exact Nat.le_refl _
  | succ n => rw [costE]; omega
/-- How deep one looks does not matter, if it is deep enough. -/
theorem anyE_deep {p : ExprD → Bool} : ∀ {d d' : Nat} {S : Nat → Prop} {w : World} {cs : List Value} {x : ExprD}, ExprP d S w cs x → d ≤ d' → anyE p d' x = anyE p d x
  | 0, _, _, _, _, _, h, _ => h.elim
  | d + 1, 0, _, _, _, _, _, h => absurd h (by omega)
  | d + 1, d' + 1, S, w, cs, x, ⟨a, c, _, _, h3⟩, h => by
    have hk : ∀ k ∈ x.kids, anyE p d' k = anyE p d k := fun k hk => by
      obtain ⟨_, cells, _, h6, _, h8⟩ := h3.rd
      obtain ⟨i, hi⟩ := List.getElem?_of_mem hk
      have hl := (List.getElem?_eq_some_iff.1 hi).1
      exact anyE_deep (h8 i _ k (List.getElem?_eq_getElem (show i < cells.length by omega)) hi) (by omega)
    show (p x || x.kids.any (anyE p d')) = (p x || x.kids.any (anyE p d))
    congr 1
    rw [Bool.eq_iff_iff, List.any_eq_true, List.any_eq_true]
    exact ⟨fun ⟨k, h1, h2⟩ => ⟨k, h1, by rw [← hk k h1]; exact h2⟩, fun ⟨k, h1, h2⟩ => ⟨k, h1, by rw [hk k h1]; exact h2⟩⟩
theorem long_up {S : Nat → Prop} {w : World} {cs : List Value} {x : ExprD} {n : Nat} (h : ExprP 1 S w cs x) : anyE longP (n + 1) x = anyE longP 1 x := anyE_deep h (by omega)
theorem long_two {d : Nat} {op : Int} {a b : ExprD} (h1 : anyE longP d a = false) (h2 : anyE longP d b = false) : anyE longP (d + 1) (.mk op 0 ⟨#[]⟩ [a, b]) = false := by
  show (decide (maxLen < (⟨#[]⟩ : ByteArray).size) || (anyE longP d a || (anyE longP d b || false))) = false
  rw [h1, h2, decide_eq_false (by decide)]
  rfl
theorem long_one {d : Nat} {op : Int} {a : ExprD} (h1 : anyE longP d a = false) : anyE longP (d + 1) (.mk op 0 ⟨#[]⟩ [a]) = false := by
  show (decide (maxLen < (⟨#[]⟩ : ByteArray).size) || (anyE longP d a || false)) = false
  rw [h1, decide_eq_false (by decide)]
  rfl
theorem twoP {S : Nat → Prop} {w : World} {kb c : Nat} {c1 c2 : List Value} {x1 x2 : ExprD} {t : TypeId} {d : Nat} {op : Int} (hop : 0 ≤ op ∧ op ≤ 13) (h : w.heap[kb]? = some (.cells (c1 ++ c2).toArray t (0, 0))) (hS : S kb) (h1 : ExprP d S w c1 x1) (h2 : ExprP d S w c2 x2) :
    ExprP (d + 1) S w [.int .i64 op, .int .i64 0, .string ⟨#[]⟩, .slice (some ⟨kb, 0, none⟩) 2 c] (.mk op 0 ⟨#[]⟩ [x1, x2]) :=
  ⟨_, c, rfl, ⟨by show (2 : Nat) ≤ maxLen; decide, op_small hop⟩, two_at h (exprP_len h1) (exprP_len h2) h1 h2, fun _ => ⟨kb, 0, rfl, hS, (Array.getElem?_eq_some_iff.1 h).1⟩⟩
theorem oneP {S : Nat → Prop} {w : World} {kb c : Nat} {c1 : List Value} {x1 : ExprD} {t : TypeId} {d : Nat} {op : Int} (hop : 0 ≤ op ∧ op ≤ 13) (h : w.heap[kb]? = some (.cells c1.toArray t (0, 0))) (hS : S kb) (h1 : ExprP d S w c1 x1) :
    ExprP (d + 1) S w [.int .i64 op, .int .i64 0, .string ⟨#[]⟩, .slice (some ⟨kb, 0, none⟩) 1 c] (.mk op 0 ⟨#[]⟩ [x1]) :=
  ⟨_, c, rfl, ⟨by show (1 : Nat) ≤ maxLen; decide, op_small hop⟩, one_at h (exprP_len h1) h1, fun _ => ⟨kb, 0, rfl, hS, (Array.getElem?_eq_some_iff.1 h).1⟩⟩

set_option maxRecDepth 100000 in
set_option maxHeartbeats 4000000 in
theorem l2Expr_low (w0 : World) (br : Nat) (a : Option Addr) (len cap : Nat) (bs : List Int) (hlen : len ≤ 2000) (na : Option Addr) (nn nc : Nat) (ns : List ByteArray) (hsz : ∀ s ∈ ns, s.size ≤ maxLen) (hnn : nn ≤ 1000000)
    (n : Nat) (w : World) (p : Nat) (hn : n < 2) (hrd : Rd w0 w br a len cap bs p) (hp : p + costE n ≤ 1000000000) (hns : StrsA br w na nn ns) :
    Calls Tryd.prog 43 #[.pointer (some ⟨br, 0, none⟩), .slice na nn nc, .int .i64 (n : Int)] w fun e w' => ExprDrawn w0 w br a len cap bs p (costE n) (n + 1) (exprF bs ns n) e w' := by
  have HSZ := Lib.hid hsz
  have HP := Lib.hid hp
  have HR := Lib.hid (ResAt.start hrd)
  have HN := Lib.hid (hns.turn (TurnR.alloc br w (.cells #[.int .i64 0, .int .i64 0, .string ⟨#[]⟩, .slice none 0 0] 54)))
  clear hrd hns hp hsz
  obtain ⟨D, hD⟩ : ∃ D : Int, D = (n : Int) := ⟨_, rfl⟩
  rw [← hD]
  have hlt : decide (D < 2) = true := decide_eq_true (by omega)
  have HLF := Lib.hid (show exprF bs ns n p = leafF bs ns p from by
    rcases (show n = 0 ∨ n = 1 by omega) with rfl | rfl
    · rfl
    · rw [exprF, if_pos rfl])
  clear hD hn
  go_enter Tryd.func43, Tryd.ntmps43
  go_upto_region 1 with fail
  generalize w.alloc (.cells #[.int .i64 0, .int .i64 0, .string ⟨#[]⟩, .slice none 0 0] 54) = W1 at HR HN ⊢
  go_wp2_with fail
  refine (l2Leaf_any w0 _ br a len cap bs p na nn nc ns HR.out.rd hlen (by have := HP.out; have := cost_ge n; omega) HN.out HSZ.out hnn).mono ?_
  rintro e w3 ⟨cs, x, q3, rfl, hrd3, hq3, ht3, hx3, hl3, hT3, hF3⟩
  obtain ⟨ka, kc, rfl⟩ := exprP_form hx3
  have HR3 := Lib.hid (HR.out.step ht3 hrd3)
  have HX3 := Lib.hid (And.intro (exprP_mono (S' := fun k => w.heap.size < k) (fun k _ h => by have := HR.out.size; omega) (exprP_le (by omega : 1 ≤ n + 1) hx3)) (show anyE longP (n + 1) x = false by rw [← hl3]; exact long_up hx3))
  have HT3 := Lib.hid (hT3.wide (by omega : 1 ≤ n + 1) (by have := HR.out.size; omega : w.heap.size + 1 ≤ _) (Nat.le_refl _))
  have HQ := Lib.hid (show q3 ≤ p + costE n by have := cost_ge n; omega)
  clear hrd3 hq3 ht3 hx3 hl3 hT3
  have c0 := HR3.out.c0
  have c1 := HR3.out.c1
  have c2 := HR3.out.c2
  have c3 := HR3.out.c3
  have f0 := HR3.out.f 0
  have f1 := HR3.out.f 1
  have f2 := HR3.out.f 2
  have f3 := HR3.out.f 3
  go_wp2
  refine bodyPost_ret (results_cell_row rfl _ _ w.heap.size 54 #[.int .i64 x.op, .int .i64 x.n, .string x.name, .slice ka x.kids.length kc] (0, 0) _ rfl ?_ Tryd.underlying54 rfl (by kernel_rfl)) rfl ?_
  · exact HR3.out.put (cs := [.int .i64 x.op, .int .i64 x.n, .string x.name, .slice ka x.kids.length kc]) rfl
  have hdone := HR3.out.done (p := p) (P := costE n) (HX3.out.1) (HX3.out.2) HQ.out (HT3.out) (F := exprF bs ns n) (by rw [HLF.out, hF3])
  rw [setCells4] at hdone
  exact hdone

set_option maxRecDepth 100000 in
set_option maxHeartbeats 4000000 in
theorem l2Expr_any (w0 : World) (br : Nat) (a : Option Addr) (len cap : Nat) (bs : List Int) (hlen : len ≤ 2000) (na : Option Addr) (nn nc : Nat) (ns : List ByteArray) (hsz : ∀ s ∈ ns, s.size ≤ maxLen) (hnn : nn ≤ 1000000) :
    ∀ (n : Nat) (w : World) (p : Nat), n ≤ 100 → Rd w0 w br a len cap bs p → p + costE n ≤ 1000000000 → StrsA br w na nn ns →
    Calls Tryd.prog 43 #[.pointer (some ⟨br, 0, none⟩), .slice na nn nc, .int .i64 (n : Int)] w fun e w' => ExprDrawn w0 w br a len cap bs p (costE n) (n + 1) (exprF bs ns n) e w' := by
  have HSZ := Lib.hid hsz
  clear hsz
  intro n
  induction n with
  | zero => exact fun w p _ hrd hp hns => l2Expr_low w0 br a len cap bs hlen na nn nc ns HSZ.out hnn 0 w p (by omega) hrd hp hns
  | succ m ih =>
    intro w p hn hrd hp hns
    by_cases hm : m = 0
    · exact l2Expr_low w0 br a len cap bs hlen na nn nc ns HSZ.out hnn (m + 1) w p (by omega) hrd hp hns
    have HP := Lib.hid hp
    have HR := Lib.hid (ResAt.start hrd)
    have HN := Lib.hid (hns.turn (TurnR.alloc br w (.cells #[.int .i64 0, .int .i64 0, .string ⟨#[]⟩, .slice none 0 0] 54)))
    have HIH := Lib.hid ih
    have HM := Lib.hid (show m ≤ 99 by omega)
    have HC := Lib.hid (show costE (m + 1) = 2 * costE m + 4 from rfl)
    clear hrd hns hp ih
    obtain ⟨n, hn0⟩ : ∃ n : Nat, n = m + 1 := ⟨_, rfl⟩
    rw [← hn0] at HP HC ⊢
    obtain ⟨D, hD⟩ : ∃ D : Int, D = (n : Int) := ⟨_, rfl⟩
    rw [← hD]
    have hlt : decide (D < 2) = false := decide_eq_false (by omega)
    have hsub : wrap64 (D - 1) = (m : Int) := by rw [show D - 1 = (m : Int) by omega]; exact IntWalk.wrap64_in (m : Int) (by have := HM.out; omega)
    have HNM := Lib.hid hn0
    have HM0 := Lib.hid hm
    clear hD hn0 hm
    go_enter Tryd.func43, Tryd.ntmps43
    go_upto_region 1 with fail
    generalize w.alloc (.cells #[.int .i64 0, .int .i64 0, .string ⟨#[]⟩, .slice none 0 0] 54) = W1 at HR HN ⊢
    go_wp2_with fail
    refine (pick_fun w0 _ br a len cap bs p 4 HR.out.rd (by omega) hlen (by have := HP.out; omega)).mono ?_
    rintro e w2 ⟨v, _, _, rfl, hrd2, hg2, hF2⟩
    have HR2 := Lib.hid (HR.out.step (TurnR.grown hg2) hrd2)
    have HN2 := Lib.hid (HN.out.turn (TurnR.grown hg2))
    clear hrd2 hg2 hlt
    by_cases hv : v = 0
    · subst hv
      go_wp2_with fail
      refine (l2Leaf_any w0 _ br a len cap bs (p + 1) na nn nc ns HR2.out.rd hlen (by have := HP.out; have := cost_ge n; omega) HN2.out HSZ.out hnn).mono ?_
      rintro e w3 ⟨cs, x, q3, rfl, hrd3, hq3, ht3, hx3, hl3, hT3, hF3⟩
      obtain ⟨ka, kc, rfl⟩ := exprP_form hx3
      have HR3 := Lib.hid (HR2.out.step ht3 hrd3)
      have HX3 := Lib.hid (And.intro (exprP_mono (S' := fun k => w.heap.size < k) (fun k _ h => by have := HR2.out.size; omega) (exprP_le (by omega : 1 ≤ n + 1) hx3)) (show anyE longP (n + 1) x = false by rw [← hl3]; exact long_up hx3))
      have HT3 := Lib.hid (hT3.wide (by omega : 1 ≤ n + 1) (by have := HR2.out.size; omega : w.heap.size + 1 ≤ _) (Nat.le_refl _))
      have HQ := Lib.hid (show q3 ≤ p + costE n by have := cost_ge n; omega)
      clear hrd3 hq3 ht3 hx3 hl3 hT3
      have c0 := HR3.out.c0
      have c1 := HR3.out.c1
      have c2 := HR3.out.c2
      have c3 := HR3.out.c3
      have f0 := HR3.out.f 0
      have f1 := HR3.out.f 1
      have f2 := HR3.out.f 2
      have f3 := HR3.out.f 3
      go_wp2
      refine bodyPost_ret (results_cell_row rfl _ _ w.heap.size 54 #[.int .i64 x.op, .int .i64 x.n, .string x.name, .slice ka x.kids.length kc] (0, 0) _ rfl ?_ Tryd.underlying54 rfl (by kernel_rfl)) rfl ?_
      · exact HR3.out.put (cs := [.int .i64 x.op, .int .i64 x.n, .string x.name, .slice ka x.kids.length kc]) rfl
      have hdone := HR3.out.done (p := p) (P := costE n) (HX3.out.1) (HX3.out.2) HQ.out (HT3.out) (F := exprF bs ns n) (by rw [HNM.out, exprF, if_neg HM0.out, if_pos hF2, hF3])
      rw [setCells4] at hdone
      exact hdone
    have hv0 : (v == 0) = false := by simpa using hv
    go_wp2_with fail
    refine (pick_fun w0 _ br a len cap bs (p + 1) 7 HR2.out.rd (by omega) hlen (by have := HP.out; omega)).mono ?_
    rintro e w3 ⟨u, _, _, rfl, hrd3, hg3, hU3⟩
    have HR3 := Lib.hid (HR2.out.step (TurnR.grown hg3) hrd3)
    have HN3 := Lib.hid (HN2.out.turn (TurnR.grown hg3))
    have HV := Lib.hid (show ¬ pickF bs 4 p = 0 by rw [hF2]; exact hv)
    clear hrd3 hg3 hv0 hv
    by_cases hu : u = 0
    · subst hu
      go_wp2_with fail
      refine (num_fun w0 _ br a len cap bs (p + 1 + 1) w3.heap.size 3 3 [11, 12, 11] (HR3.out.rd.alloc _) (litI w3 [11, 12, 11]) (by have := HR3.out.rd.lt; omega) (by omega) hlen (by have := HP.out; omega)).mono ?_
      rintro e w4 ⟨op, hop, rfl, hrd4, hg4, hF4⟩
      have HOP := Lib.hid (show 0 ≤ op ∧ op ≤ 13 by simp at hop; omega)
      have HR4 := Lib.hid ((HR3.out.alloc (.cells ([11, 12, 11].map (Value.int .i64)).toArray 3)).step (TurnR.grown hg4) hrd4)
      have HN4 := Lib.hid ((HN3.out.turn (TurnR.alloc br w3 (.cells ([11, 12, 11].map (Value.int .i64)).toArray 3))).turn (TurnR.grown hg4))
      clear hrd4 hg4 hop
      have HCALL := Lib.hid (HIH.out w4 (p + 1 + 1 + 1) (by have := HM.out; omega) HR4.out.rd (by have := HP.out; have := HC.out; omega) HN4.out)
      go_wp2_with fail
      refine HCALL.out.mono ?_
      rintro e w5 ⟨cs, x, q5, rfl, hrd5, hq5, ht5, hx5, hl5, -, hF5⟩
      obtain ⟨ka, kc, rfl⟩ := exprP_form hx5
      have HR5 := Lib.hid ((HR4.out.step ht5 hrd5).alloc (.cells #[.int .i64 x.op, .int .i64 x.n, .string x.name, .slice ka x.kids.length kc] 54))
      have HX5 := Lib.hid (show ExprP (n + 1) (fun k => w.heap.size < k) (w5.alloc (.cells #[.int .i64 x.op, .int .i64 x.n, .string x.name, .slice ka x.kids.length kc] 54)) [.int .i64 op, .int .i64 0, .string ⟨#[]⟩, .slice (some ⟨w5.heap.size, 0, none⟩) 1 1] (.mk op 0 ⟨#[]⟩ [x]) ∧ anyE longP (n + 1) (.mk op 0 ⟨#[]⟩ [x]) = false ∧ TopG (n + 1) (w.heap.size + 1) (w5.alloc (.cells #[.int .i64 x.op, .int .i64 x.n, .string x.name, .slice ka x.kids.length kc] 54)).heap.size (w5.alloc (.cells #[.int .i64 x.op, .int .i64 x.n, .string x.name, .slice ka x.kids.length kc] 54)) [.int .i64 op, .int .i64 0, .string ⟨#[]⟩, .slice (some ⟨w5.heap.size, 0, none⟩) 1 1] (.mk op 0 ⟨#[]⟩ [x]) by
        rw [HNM.out]
        refine ⟨oneP HOP.out (heap_alloc_new w5 _) (by have := (HR4.out.step ht5 hrd5).size; omega) (exprP_below ((Below.refl _ _).alloc (Nat.le_refl _) _) (exprP_mono (fun k _ h => by have := HR4.out.size; omega) hx5)), long_one hl5, (TopG.one (by have := (HR4.out.step ht5 hrd5).size; omega) (exprP_mono (fun k _ h => by have := HR4.out.size; omega) hx5)).wide (by omega) (Nat.le_refl _) (Nat.le_refl _)⟩)
      have HQ := Lib.hid (show q5 ≤ p + costE n by have := HC.out; omega)
      clear hrd5 hq5 ht5 hx5 hl5
      have c0 := HR5.out.c0
      have c1 := HR5.out.c1
      have c2 := HR5.out.c2
      have c3 := HR5.out.c3
      have f0 := HR5.out.f 0
      have f1 := HR5.out.f 1
      have f2 := HR5.out.f 2
      have f3 := HR5.out.f 3
      go_wp2
      refine bodyPost_ret (results_cell_row rfl _ _ w.heap.size 54 #[.int .i64 op, .int .i64 0, .string ⟨#[]⟩, .slice (some ⟨w5.heap.size, 0, none⟩) 1 1] (0, 0) _ rfl ?_ Tryd.underlying54 rfl (by kernel_rfl)) rfl ?_
      · exact HR5.out.put (cs := [.int .i64 op, .int .i64 0, .string ⟨#[]⟩, .slice (some ⟨w5.heap.size, 0, none⟩) 1 1]) rfl
      have hdone := HR5.out.done (p := p) (P := costE n) (HX5.out.1) (HX5.out.2.1) HQ.out (HX5.out.2.2) (F := exprF bs ns n) (by rw [HNM.out, exprF, if_neg HM0.out, if_neg HV.out, if_pos hU3, hF4, hF5])
      rw [setCells4] at hdone
      exact hdone
    have hu0 : (u == 0) = false := by simpa using hu
    go_wp2_with fail
    refine (num_fun w0 _ br a len cap bs (p + 1 + 1) w3.heap.size 9 9 [3, 3, 4, 5, 6, 7, 8, 9, 10] (HR3.out.rd.alloc _) (litI w3 [3, 3, 4, 5, 6, 7, 8, 9, 10]) (by have := HR3.out.rd.lt; omega) (by omega) hlen (by have := HP.out; omega)).mono ?_
    rintro e w4 ⟨op, hop, rfl, hrd4, hg4, hF4⟩
    have HOP := Lib.hid (show 0 ≤ op ∧ op ≤ 13 by simp at hop; omega)
    have HR4 := Lib.hid ((HR3.out.alloc (.cells ([3, 3, 4, 5, 6, 7, 8, 9, 10].map (Value.int .i64)).toArray 3)).step (TurnR.grown hg4) hrd4)
    have HN4 := Lib.hid ((HN3.out.turn (TurnR.alloc br w3 (.cells ([3, 3, 4, 5, 6, 7, 8, 9, 10].map (Value.int .i64)).toArray 3))).turn (TurnR.grown hg4))
    have HU := Lib.hid (show ¬ pickF bs 7 (p + 1) = 0 by rw [hU3]; exact hu)
    clear hrd4 hg4 hop hu0 hu
    have HCALL := Lib.hid (HIH.out w4 (p + 1 + 1 + 1) (by have := HM.out; omega) HR4.out.rd (by have := HP.out; have := HC.out; omega) HN4.out)
    go_wp2_with fail
    refine HCALL.out.mono ?_
    rintro e w5 ⟨cs, x, q5, rfl, hrd5, hq5, ht5, hx5, hl5, -, hF5⟩
    obtain ⟨ka, kc, rfl⟩ := exprP_form hx5
    have HR5 := Lib.hid (HR4.out.step ht5 hrd5)
    have HN5 := Lib.hid (HN4.out.turn ht5)
    have HX5 := Lib.hid (And.intro (exprP_mono (S' := fun k => w.heap.size < k) (fun k _ h => by have := HR4.out.size; omega) hx5) (And.intro hl5 (show q5 ≤ p + 1 + 1 + 1 + costE m from hq5)))
    clear hrd5 hq5 ht5 hx5 hl5 HCALL
    have HCALL := Lib.hid (HIH.out w5 q5 (by have := HM.out; omega) HR5.out.rd (by have := HP.out; have := HC.out; have := HX5.out.2.2; omega) HN5.out)
    go_wp2_with fail
    refine HCALL.out.mono ?_
    rintro e w6 ⟨cs2, y, q6, rfl, hrd6, hq6, ht6, hy6, hl6, -, hF6⟩
    obtain ⟨ja, jc, rfl⟩ := exprP_form hy6
    have HR6 := Lib.hid ((HR5.out.step ht6 hrd6).alloc (.cells #[.int .i64 x.op, .int .i64 x.n, .string x.name, .slice ka x.kids.length kc, .int .i64 y.op, .int .i64 y.n, .string y.name, .slice ja y.kids.length jc] 54))
    have HX6 := Lib.hid (show ExprP (n + 1) (fun k => w.heap.size < k) (w6.alloc (.cells #[.int .i64 x.op, .int .i64 x.n, .string x.name, .slice ka x.kids.length kc, .int .i64 y.op, .int .i64 y.n, .string y.name, .slice ja y.kids.length jc] 54)) [.int .i64 op, .int .i64 0, .string ⟨#[]⟩, .slice (some ⟨w6.heap.size, 0, none⟩) 2 2] (.mk op 0 ⟨#[]⟩ [x, y]) ∧ anyE longP (n + 1) (.mk op 0 ⟨#[]⟩ [x, y]) = false ∧ TopG (n + 1) (w.heap.size + 1) (w6.alloc (.cells #[.int .i64 x.op, .int .i64 x.n, .string x.name, .slice ka x.kids.length kc, .int .i64 y.op, .int .i64 y.n, .string y.name, .slice ja y.kids.length jc] 54)).heap.size (w6.alloc (.cells #[.int .i64 x.op, .int .i64 x.n, .string x.name, .slice ka x.kids.length kc, .int .i64 y.op, .int .i64 y.n, .string y.name, .slice ja y.kids.length jc] 54)) [.int .i64 op, .int .i64 0, .string ⟨#[]⟩, .slice (some ⟨w6.heap.size, 0, none⟩) 2 2] (.mk op 0 ⟨#[]⟩ [x, y]) by
      rw [HNM.out]
      have hba : Below w6.heap.size w6 (w6.alloc (.cells #[.int .i64 x.op, .int .i64 x.n, .string x.name, .slice ka x.kids.length kc, .int .i64 y.op, .int .i64 y.n, .string y.name, .slice ja y.kids.length jc] 54)) := (Below.refl _ _).alloc (Nat.le_refl _) _
      refine ⟨twoP HOP.out (c1 := [.int .i64 x.op, .int .i64 x.n, .string x.name, .slice ka x.kids.length kc]) (heap_alloc_new w6 _) (by have := (HR5.out.step ht6 hrd6).size; omega) (exprP_below hba (ht6.expr HR.out.lt HX5.out.1)) (exprP_below hba (exprP_mono (fun k _ h => by have := HR5.out.size; omega) hy6)), long_two HX5.out.2.1 hl6, (TopG.two (c1 := [.int .i64 x.op, .int .i64 x.n, .string x.name, .slice ka x.kids.length kc]) (by have := (HR5.out.step ht6 hrd6).size; omega) (exprP_mono (fun k _ h => by omega) (ht6.expr HR.out.lt HX5.out.1)) (exprP_mono (fun k _ h => by have := HR5.out.size; omega) hy6)).wide (by omega) (Nat.le_refl _) (Nat.le_refl _)⟩)
    have HQ := Lib.hid (show q6 ≤ p + costE n by have := HC.out; have := HX5.out.2.2; omega)
    clear hrd6 hq6 ht6 hy6 hl6
    have c0 := HR6.out.c0
    have c1 := HR6.out.c1
    have c2 := HR6.out.c2
    have c3 := HR6.out.c3
    have f0 := HR6.out.f 0
    have f1 := HR6.out.f 1
    have f2 := HR6.out.f 2
    have f3 := HR6.out.f 3
    go_wp2
    refine bodyPost_ret (results_cell_row rfl _ _ w.heap.size 54 #[.int .i64 op, .int .i64 0, .string ⟨#[]⟩, .slice (some ⟨w6.heap.size, 0, none⟩) 2 2] (0, 0) _ rfl ?_ Tryd.underlying54 rfl (by kernel_rfl)) rfl ?_
    · exact HR6.out.put (cs := [.int .i64 op, .int .i64 0, .string ⟨#[]⟩, .slice (some ⟨w6.heap.size, 0, none⟩) 2 2]) rfl
    have hdone := HR6.out.done (p := p) (P := costE n) (HX6.out.1) (HX6.out.2.1) HQ.out (HX6.out.2.2) (F := exprF bs ns n) (by rw [HNM.out, exprF, if_neg HM0.out, if_neg HV.out, if_neg HU.out, hF4, hF5, hF6])
    rw [setCells4] at hdone
    exact hdone

end Go.Proofs.YtccdmgncjlpebaaDoor
