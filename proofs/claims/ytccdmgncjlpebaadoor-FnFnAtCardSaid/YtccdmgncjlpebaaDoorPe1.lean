/-
  Expressions: ExprValid; the parts of an expression are visited by EvalExpr's closure; with names (printed by mkey4.py).
-/
import Derived.Test.YtccdmgncjlpebaaDoorNmLays
import Derived.Deep.LoopGhost
import Derived.Test.YtccdmgncjlpebaaDoorEy3
import Derived.Test.YtccdmgncjlpebaaDoorNm
import Derived.Maps.OwnSet
import Derived.Maps.OwnOps
import Derived.Maps.Views
import Derived.Test.YtccdmgncjlpebaaDoorEp
import Derived.Deep.QuietTactic
import Derived.BigQuiet
import Derived.Defers
import Derived.Recover
import Derived.Tactics2
import Derived.Laws.Pointers
import Derived.Test.YtccdmgncjlpebaaDoorLaw
import Derived.Carry
import Derived.Deep.DeepCutAuto
import Derived.StillTailTactics

namespace Go.Proofs.YtccdmgncjlpebaaDoor
open Go.RowKit

def anyE (p : ExprD → Bool) : Nat → ExprD → Bool
  | 0, _ => false
  | d + 1, e => p e || e.kids.any (anyE p d)

set_option maxRecDepth 100000 in
set_option maxHeartbeats 2000000 in
theorem exprValidN_any (d : Nat) (cs : List Value) (x : ExprD) (w : World) (hO : OpsAt w) (hK : KeysAt w) (hx : ExprAt d w cs x) :
    Calls Tryd.prog 48 #[.agg cs.toArray] w fun e w' => e = .returned (.bool (sizeD nameD 6 x).isSome) ∧ Below w.heap.size w w' := by
  cases d with
  | zero => exact hx.elim
  | succ d =>
  have hx2 := hx
  obtain ⟨ka, kc, rfl, _, _⟩ := hx2
  have hba : Below w.heap.size w (w.alloc (.cells #[.int .i64 x.op, .int .i64 x.n, .string x.name, .slice ka x.kids.length kc] 54)) := (Below.refl _ _).alloc (Nat.le_refl _) _
  have hrow := heap_alloc_new w (.cells #[.int .i64 x.op, .int .i64 x.n, .string x.name, .slice ka x.kids.length kc] 54)
  have e0 := cell_of_row _ _ 0 _ _ _ hrow
  have e1 := cell_of_row _ _ 1 _ _ _ hrow
  have e2 := cell_of_row _ _ 2 _ _ _ hrow
  have e3 := cell_of_row _ _ 3 _ _ _ hrow
  simp only [List.getElem?_toArray, List.getElem?_cons_zero, List.getElem?_cons_succ] at e0 e1 e2 e3
  have HQ := Lib.hid (exprSizeN_any 6 (d + 1) _ x _ (by omega) (hO.later hba) (hK.later hba) (exprAt_lasts (d + 1) _ _ _ _ hba hx))
  have HB := Lib.hid hba
  clear hba hrow hO hx hK
  go_enter Tryd.func48, Tryd.ntmps48
  go_wp2_with fail
  refine HQ.out.mono ?_
  rintro e w5 ⟨⟨p5, d5, rfl, -⟩, hb5⟩
  have HE := Lib.hid (HB.out.trans (hb5.mono HB.out.size))
  clear hb5 e0 e1 e2 e3
  go_wp2
  go_ret
  exact ⟨rfl, HE.out⟩

end Go.Proofs.YtccdmgncjlpebaaDoor

/-
  Expressions with names: what they evaluate to; where a name's value lies.
-/
namespace Go.Proofs.YtccdmgncjlpebaaDoor
open Go.RowKit

theorem any_partsE {p : ExprD → Bool} {d : Nat} {x : ExprD} (h : anyE p (d + 1) x = false) : p x = false ∧ ∀ k ∈ x.kids, anyE p d k = false := by
  rw [anyE, Bool.or_eq_false_iff] at h
  exact ⟨h.1, fun k hk => by simpa using List.any_eq_false.1 h.2 k hk⟩
end Go.Proofs.YtccdmgncjlpebaaDoor

/-
  FnDoIns: what an instruction makes of values, both.
-/
namespace Go.Proofs.YtccdmgncjlpebaaDoor
open Go.RowKit

theorem l1InE_any (x lo hi : Int) (w : World) : Calls Tryd.prog 21 #[.int .i64 x, .int .i64 lo, .int .i64 hi] w fun e w' => e = .returned (.bool (inE lo x hi)) ∧ w' = w := by
  unfold inE
  by_cases h1 : lo ≤ x
  · have d1 : decide (lo ≤ x) = true := decide_eq_true h1
    by_cases h2 : x ≤ hi
    · have d2 : decide (x ≤ hi) = true := decide_eq_true h2
      rw [d1, d2]
      go_enter Tryd.func21, Tryd.ntmps21
      go_wp2
      go_ret
      exact ⟨rfl, rfl⟩
    · have d2 : decide (x ≤ hi) = false := decide_eq_false h2
      rw [d1, d2]
      go_enter Tryd.func21, Tryd.ntmps21
      go_wp2
      go_ret
      exact ⟨rfl, rfl⟩
  · have d1 : decide (lo ≤ x) = false := decide_eq_false h1
    rw [d1]
    go_enter Tryd.func21, Tryd.ntmps21
    go_wp2
    go_ret
    exact ⟨rfl, rfl⟩
theorem l1InE_is {x lo hi : Int} {b : Bool} (h : inE lo x hi = b) (w : World) : Calls Tryd.prog 21 #[.int .i64 x, .int .i64 lo, .int .i64 hi] w fun e w' => e = .returned (.bool b) ∧ w' = w := by rw [← h]; exact l1InE_any x lo hi w
end Go.Proofs.YtccdmgncjlpebaaDoor

/-
  Expressions and their values (plain): what the law FnEval says; expressions laid as literals.
-/
namespace Go.Proofs.YtccdmgncjlpebaaDoor
open Go.RowKit
set_option linter.unusedVariables false

/-- Two expressions laid one behind the other. -/
theorem two_at {R : World → List Value → ExprD → Prop} {w : World} {kb : Nat} {c1 c2 : List Value} {x1 x2 : ExprD} {t : TypeId} (h : w.heap[kb]? = some (.cells (c1 ++ c2).toArray t (0, 0))) (l1 : c1.length = 4) (l2 : c2.length = 4) (h1 : R w c1 x1) (h2 : R w c2 x2) :
    SliceRd 4 R w (some ⟨kb, 0, none⟩) 2 [x1, x2] := by
  refine ⟨rfl, [c1, c2], .inr ⟨kb, 0, rfl, fun i v hv => ?_⟩, rfl, by intro c hc; simp at hc; rcases hc with rfl | rfl <;> assumption, ?_⟩
  · rw [cell_of_row _ _ (0 + i) _ _ _ h]
    simpa using hv
  · intro i c x hc hx
    match i with
    | 0 => cases hc; cases hx; exact h1
    | 1 => cases hc; cases hx; exact h2
    | i + 2 => cases hc
theorem one_at {R : World → List Value → ExprD → Prop} {w : World} {kb : Nat} {c1 : List Value} {x1 : ExprD} {t : TypeId} (h : w.heap[kb]? = some (.cells c1.toArray t (0, 0))) (l1 : c1.length = 4) (h1 : R w c1 x1) :
    SliceRd 4 R w (some ⟨kb, 0, none⟩) 1 [x1] := by
  refine ⟨rfl, [c1], .inr ⟨kb, 0, rfl, fun i v hv => ?_⟩, rfl, by intro c hc; simp at hc; rcases hc with rfl; assumption, ?_⟩
  · rw [cell_of_row _ _ (0 + i) _ _ _ h]
    simpa using hv
  · intro i c x hc hx
    match i with
    | 0 => cases hc; cases hx; exact h1
    | i + 1 => cases hc
theorem op_small {op : Int} (h : 0 ≤ op ∧ op ≤ 13) : -9223372036854775808 ≤ op ∧ op ≤ 9223372036854775807 := by omega
end Go.Proofs.YtccdmgncjlpebaaDoor
