
/-
  Expressions and their values (plain): what the law FnEval says; expressions laid as literals.
-/
import Derived.Test.YtccfbnhlhjlmgaaDoorEp
import Derived.Test.YtccfbnhlhjlmgaaDoorEy9
import Derived.Test.YtccfbnhlhjlmgaaDoorDi
namespace Go.Proofs.YtccfbnhlhjlmgaaDoor
open Go.RowKit
set_option linter.unusedVariables false

theorem noneE0 : (⟨#[]⟩ : ByteArray).toList.isEmpty = true := by
  rw [ByteArray.toList_eq]; rfl
theorem evalR2_mk {ns : List ByteArray} {vs : List Int} {d : Nat} {x : ExprD} (h1 : sizeD nameD 6 x ≠ none) (h2 : vs.length = ns.length) (h3 : bytesB vs = true) (h4 : anyE (badP ns) d x = false) :
    evalR2 ns vs d x = arithP (evalV (valV ns vs) d x) := by
  have h5 : (sizeD nameD 6 x).isSome = true := by
    cases h : sizeD nameD 6 x with
    | none => exact absurd h h1
    | some q => rfl
  unfold evalR2
  rw [h5, h3, h4, decide_eq_true h2]
  cases evalV (valV ns vs) d x <;> rfl
theorem evalR2_cases (ns : List ByteArray) (vs : List Int) (d : Nat) (x : ExprD) : evalR2 ns vs d x = (-1, -1) ∨
    (sizeD nameD 6 x ≠ none ∧ vs.length = ns.length ∧ bytesB vs = true ∧ anyE (badP ns) d x = false ∧ evalR2 ns vs d x = arithP (evalV (valV ns vs) d x)) := by
  by_cases h1 : sizeD nameD 6 x = none
  · exact .inl (by unfold evalR2; rw [h1]; rfl)
  by_cases h2 : vs.length = ns.length
  · cases h3 : bytesB vs with
    | false => exact .inl (by unfold evalR2; rw [h3]; simp)
    | true =>
      cases h4 : anyE (badP ns) d x with
      | true => exact .inl (by unfold evalR2; rw [h4]; simp)
      | false => exact .inr ⟨h1, h2, rfl, rfl, evalR2_mk h1 h2 h3 h4⟩
  · exact .inl (by unfold evalR2; rw [decide_eq_false h2]; simp)
theorem evalV_num (G : ByteArray → Option Int) (d : Nat) (n : Int) : evalV G (d + 1) (numE n) = some n := rfl
theorem evalV_mk (G : ByteArray → Option Int) (d : Nat) (op n : Int) (s : ByteArray) (ks : List ExprD) : evalV G (d + 1) (.mk op n s ks) =
    if op = 1 then some n
    else if op = 2 then some ((G s).getD 0)
    else if op = 10 then (evalV G d (ks.getD 0 default)).bind (fun a => if a = 0 then some 0 else (evalV G d (ks.getD 1 default)).bind (fun b => some (truthI (!(b == 0)))))
    else (evalV G d (ks.getD 0 default)).bind (fun a => (if 1 < ks.length then evalV G d (ks.getD 1 default) else some 0).bind (fun b => arithD op a b)) := rfl
theorem evalV_two (G : ByteArray → Option Int) (d : Nat) (op n : Int) (s : ByteArray) (a b : ExprD) (h1 : op ≠ 1) (h2 : op ≠ 2) (h10 : op ≠ 10) :
    evalV G (d + 1) (.mk op n s [a, b]) = (evalV G d a).bind (fun u => (evalV G d b).bind (fun v => arithD op u v)) := by
  rw [evalV_mk, if_neg h1, if_neg h2, if_neg h10]
  rfl
theorem anyE_num {ns : List ByteArray} (d : Nat) (n : Int) : anyE (badP ns) d (numE n) = false := by
  cases d <;> rfl
theorem anyE_two {ns : List ByteArray} {d : Nat} {op n : Int} {s : ByteArray} {a b : ExprD} (h0 : badP ns (.mk op n s [a, b]) = false) (h1 : anyE (badP ns) d a = false) (h2 : anyE (badP ns) d b = false) : anyE (badP ns) (d + 1) (.mk op n s [a, b]) = false := by
  show (badP ns (.mk op n s [a, b]) || (anyE (badP ns) d a || (anyE (badP ns) d b || false))) = false
  rw [h0, h1, h2]; rfl
/-- The value of 'e = n', of 'e - e'. -/
theorem same_value {ns : List ByteArray} {vs : List Int} {d : Nat} {x : ExprD} {n : Int} (hv : sizeD nameD 6 (.mk 9 0 ⟨#[]⟩ [x, numE n]) ≠ none) (h2 : vs.length = ns.length) (h3 : bytesB vs = true) (h4 : anyE (badP ns) (d + 1) x = false) (h5 : evalV (valV ns vs) (d + 1) x = some n) :
    evalR2 ns vs (d + 2) (.mk 9 0 ⟨#[]⟩ [x, numE n]) = (1, 0) := by
  rw [evalR2_mk hv h2 h3 (anyE_two rfl h4 (anyE_num _ _)), evalV_two _ _ _ _ _ _ _ (by decide) (by decide) (by decide), h5, evalV_num]
  show arithP (some (truthI (n == n))) = _
  simp [truthI, arithP]
theorem sub_value {ns : List ByteArray} {vs : List Int} {d : Nat} {x : ExprD} (hv : sizeD nameD 6 (.mk 4 0 ⟨#[]⟩ [x, x]) ≠ none) (h2 : vs.length = ns.length) (h3 : bytesB vs = true) (h4 : anyE (badP ns) (d + 1) x = false) :
    evalR2 ns vs (d + 2) (.mk 4 0 ⟨#[]⟩ [x, x]) = (0, (arithP (evalV (valV ns vs) (d + 1) x)).2) := by
  rw [evalR2_mk hv h2 h3 (anyE_two rfl h4 h4), evalV_two _ _ _ _ _ _ _ (by decide) (by decide) (by decide)]
  cases evalV (valV ns vs) (d + 1) x with
  | none => rfl
  | some v =>
    show arithP (some ((v - v) % 256)) = _
    rw [Int.sub_self]; rfl

/-- Two expressions laid one behind the other. -/
theorem two_at {R : World → List Value → ExprD → Prop} {w : World} {kb : Nat} {c1 c2 : List Value} {x1 x2 : ExprD} {t : TypeId} (h : w.heap[kb]? = some (.cells (c1 ++ c2).toArray t (0, 0))) (l1 : c1.length = 4) (l2 : c2.length = 4) (h1 : R w c1 x1) (h2 : R w c2 x2) :
    SliceRd 4 R w (some ⟨kb, 0, none⟩) 2 [x1, x2] := by
  refine ⟨rfl, [c1, c2], .inr ⟨kb, 0, rfl, fun i v hv => ?_⟩, rfl, by intro c hc; simp at hc; rcases hc with rfl | rfl <;> assumption, ?_⟩
  · rw [cell_of_row _ _ (0 + i) _ _ _ h]
    simpa using hv
  · intro i c x hc hx
    match i with
    | 0 => cases hc; cases hx; exact h1
    | 1 => cases hc; cases hx; exact h2
    | i + 2 => cases hc
theorem one_at {R : World → List Value → ExprD → Prop} {w : World} {kb : Nat} {c1 : List Value} {x1 : ExprD} {t : TypeId} (h : w.heap[kb]? = some (.cells c1.toArray t (0, 0))) (l1 : c1.length = 4) (h1 : R w c1 x1) :
    SliceRd 4 R w (some ⟨kb, 0, none⟩) 1 [x1] := by
  refine ⟨rfl, [c1], .inr ⟨kb, 0, rfl, fun i v hv => ?_⟩, rfl, by intro c hc; simp at hc; rcases hc with rfl; assumption, ?_⟩
  · rw [cell_of_row _ _ (0 + i) _ _ _ h]
    simpa using hv
  · intro i c x hc hx
    match i with
    | 0 => cases hc; cases hx; exact h1
    | i + 1 => cases hc
theorem op_small {op : Int} (h : 0 ≤ op ∧ op ≤ 13) : -9223372036854775808 ≤ op ∧ op ≤ 9223372036854775807 := by omega
theorem two_exprAt {w : World} {kb c : Nat} {c1 c2 : List Value} {x1 x2 : ExprD} {t : TypeId} {d : Nat} {op : Int} (hop : 0 ≤ op ∧ op ≤ 13) (h : w.heap[kb]? = some (.cells (c1 ++ c2).toArray t (0, 0))) (l1 : c1.length = 4) (l2 : c2.length = 4) (h1 : ExprAt d w c1 x1) (h2 : ExprAt d w c2 x2) :
    ExprAt (d + 1) w [.int .i64 op, .int .i64 0, .string ⟨#[]⟩, .slice (some ⟨kb, 0, none⟩) 2 c] (.mk op 0 ⟨#[]⟩ [x1, x2]) :=
  ⟨_, c, rfl, ⟨by show (2 : Nat) ≤ maxLen; decide, op_small hop⟩, two_at h l1 l2 h1 h2⟩
theorem exprAt_len {d : Nat} {w : World} {cs : List Value} {x : ExprD} (h : ExprAt d w cs x) : cs.length = 4 := by
  cases d with
  | zero => exact h.elim
  | succ d => obtain ⟨a, c, rfl, _⟩ := h; rfl
theorem exprAt_form {d : Nat} {w : World} {cs : List Value} {x : ExprD} (h : ExprAt d w cs x) : ∃ a c, cs = [.int .i64 x.op, .int .i64 x.n, .string x.name, .slice a x.kids.length c] := by
  cases d with
  | zero => exact h.elim
  | succ d => obtain ⟨a, c, h1, _⟩ := h; exact ⟨a, c, h1⟩
theorem exprAt_num {w : World} (d : Nat) (n : Int) : ExprAt (d + 1) w [.int .i64 1, .int .i64 n, .string ⟨#[]⟩, .slice none 0 0] (numE n) :=
  ⟨none, 0, rfl, ⟨by show (0 : Nat) ≤ maxLen; exact Nat.zero_le _, (by decide : (-9223372036854775808 : Int) ≤ 1), (by decide : (1 : Int) ≤ 9223372036854775807)⟩, rfl, [], .inl rfl, rfl, by simp, by simp⟩
/-- An expression that is valid is as deep as its level. -/
theorem exprP_fit {nameB : ByteArray → Bool} : ∀ {m d : Nat} {S : Nat → Prop} {w : World} {cs : List Value} {x : ExprD}, sizeD nameB m x ≠ none → ExprP d S w cs x → ExprP m S w cs x
  | 0, _, _, _, _, _, h, _ => absurd rfl h
  | m + 1, 0, _, _, _, _, _, h => h.elim
  | m + 1, d + 1, S, w, cs, x, hs, ⟨a, c, h1, h2, h3⟩ => by
    obtain ⟨m', hm, _, hk⟩ := size_parts hs
    cases hm
    refine ⟨a, c, h1, h2, ?_⟩
    obtain ⟨⟨k1, cells, k2, k3, k4, k5⟩, k6⟩ := h3
    exact ⟨⟨k1, cells, k2, k3, k4, fun i cl y hc hy => exprP_fit (hk y (List.mem_of_getElem? hy)) (k5 i cl y hc hy)⟩, k6⟩
theorem exprAt_fit {nameB : ByteArray → Bool} {m d : Nat} {w : World} {cs : List Value} {x : ExprD} (hs : sizeD nameB m x ≠ none) (h : ExprAt d w cs x) : ExprAt m w cs x := exprP_at (exprP_fit hs (exprAt_P h))
/-- What is asked of the parts of a valid expression does not depend on how deep one looks. -/
theorem anyE_fit {nameB : ByteArray → Bool} {p : ExprD → Bool} : ∀ {m d d' : Nat} {x : ExprD}, sizeD nameB m x ≠ none → m ≤ d → m ≤ d' → anyE p d x = anyE p d' x
  | 0, _, _, _, h, _, _ => absurd rfl h
  | m + 1, 0, _, _, _, h, _ => absurd h (by omega)
  | m + 1, _, 0, _, _, _, h => absurd h (by omega)
  | m + 1, d + 1, d' + 1, x, hs, h, h' => by
    obtain ⟨m', hm, _, hk⟩ := size_parts hs
    cases hm
    have hk2 : ∀ k ∈ x.kids, anyE p d k = anyE p d' k := fun k hk' => anyE_fit (hk k hk') (by omega) (by omega)
    show (p x || x.kids.any (anyE p d)) = (p x || x.kids.any (anyE p d'))
    congr 1
    rw [Bool.eq_iff_iff, List.any_eq_true, List.any_eq_true]
    exact ⟨fun ⟨k, h1, h2⟩ => ⟨k, h1, by rw [← hk2 k h1]; exact h2⟩, fun ⟨k, h1, h2⟩ => ⟨k, h1, by rw [hk2 k h1]; exact h2⟩⟩

end Go.Proofs.YtccfbnhlhjlmgaaDoor
