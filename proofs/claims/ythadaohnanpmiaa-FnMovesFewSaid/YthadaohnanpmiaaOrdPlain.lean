/-
  Ordering moves, in plain Lean: what the program and the reference both do with what is left and what is out; that it ends.
-/
import Derived.Test.YthadaohnanpmiaaMoves
namespace Go.Proofs.Ythadaohnanpmiaa
open Go.RowKit

def enc (m : Int × Int) : List Int := [m.1, m.2]
def isFree (left : List (Int × Int)) (m : Int × Int) : Bool := left.all (fun o => !decide (o.2 = m.1))
def freeAt (left : List (Int × Int)) : Option Nat := left.findIdx? (isFree left)
def swapTo (spare r : Int) (o : Int × Int) : Int × Int := if o.2 = r then (o.1, spare) else o
def ordStep (spare : Int) (left out : List (Int × Int)) : List (Int × Int) × List (Int × Int) :=
  match freeAt left with
  | some k => (left.eraseIdx k, out ++ [left.getD k (0, 0)])
  | none => (left.map (swapTo spare (left.headD (0, 0)).1), out ++ [(spare, (left.headD (0, 0)).1)])
def ordEnd (spare : Int) : Nat → List (Int × Int) → List (Int × Int) → List (Int × Int)
  | 0, _, out => out
  | F + 1, left, out => if left = [] then out else ordEnd spare F (ordStep spare left out).1 (ordStep spare left out).2
def ordMeas (left : List (Int × Int)) : Nat := 2 * left.length + (if (freeAt left).isSome then 0 else 1)
def OrdInv (spare : Int) (left : List (Int × Int)) : Prop := ∀ m ∈ left, m.1 ≠ m.2 ∧ m.1 ≠ spare
/-- The moves in their order. -/
def ordRes (spare : Int) (left : List (Int × Int)) : List (Int × Int) := ordEnd spare (2 * left.length + 1) left []

theorem ordEnd_nil (spare : Int) (F : Nat) (out : List (Int × Int)) : ordEnd spare F [] out = out := by cases F <;> simp [ordEnd]
theorem ordMeas_le (left : List (Int × Int)) : ordMeas left ≤ 2 * left.length + 1 := by unfold ordMeas; split <;> omega
theorem freeAt_some {left : List (Int × Int)} {k : Nat} (h : freeAt left = some k) : ∃ m, left[k]? = some m ∧ isFree left m = true ∧ ∀ j x, j < k → left[j]? = some x → isFree left x = false := by
  unfold freeAt at h
  rw [List.findIdx?_eq_some_iff_getElem] at h
  obtain ⟨hk, h1, h2⟩ := h
  refine ⟨left[k], List.getElem?_eq_getElem hk, h1, fun j x hj hx => ?_⟩
  obtain ⟨hjl, rfl⟩ := List.getElem?_eq_some_iff.1 hx
  simpa using h2 j hj
theorem freeAt_none {left : List (Int × Int)} (h : freeAt left = none) : ∀ m ∈ left, isFree left m = false := by
  unfold freeAt at h
  rw [List.findIdx?_eq_none_iff] at h
  intro m hm
  simpa using h m hm
/-- One round: the fuel shrinks, what holds still holds. -/
theorem ord_round {spare : Int} {left out R : List (Int × Int)} {F : Nat} (hne : left ≠ []) (hinv : OrdInv spare left) (hm : ordMeas left ≤ F) (hend : ordEnd spare F left out = R) :
    ∃ F', F = F' + 1 ∧ ordMeas (ordStep spare left out).1 ≤ F' ∧ ordEnd spare F' (ordStep spare left out).1 (ordStep spare left out).2 = R ∧ OrdInv spare (ordStep spare left out).1 := by
  have hpos : 0 < left.length := List.length_pos_iff.2 hne
  obtain ⟨F', rfl⟩ : ∃ F', F = F' + 1 := ⟨F - 1, by unfold ordMeas at hm; omega⟩
  refine ⟨F', rfl, ?_, by rw [ordEnd, if_neg hne] at hend; exact hend, ?_⟩
  · cases hf : freeAt left with
    | some k =>
      obtain ⟨m, hk, _⟩ := freeAt_some hf
      have hkl := (List.getElem?_eq_some_iff.1 hk).1
      have h1 : (ordStep spare left out).1 = left.eraseIdx k := by simp [ordStep, hf]
      rw [h1]
      have h2 := ordMeas_le (left.eraseIdx k)
      rw [List.length_eraseIdx, if_pos hkl] at h2
      unfold ordMeas at hm
      omega
    | none =>
      have h1 : (ordStep spare left out).1 = left.map (swapTo spare (left.headD (0, 0)).1) := by simp [ordStep, hf]
      rw [h1]
      unfold ordMeas at hm ⊢
      rw [hf] at hm
      simp only [Option.isSome_none, Bool.false_eq_true, if_false, List.length_map] at hm ⊢
      have hfree : (freeAt (left.map (swapTo spare (left.headD (0, 0)).1))).isSome = true := by
        cases left with
        | nil => exact absurd rfl hne
        | cons m rest =>
          have hm1 := hinv m (by simp)
          cases hff : freeAt ((m :: rest).map (swapTo spare ((m :: rest).headD (0, 0)).1)) with
          | some k => rfl
          | none =>
            have h3 := freeAt_none hff (swapTo spare m.1 m) (by simp)
            have h4 : isFree ((m :: rest).map (swapTo spare ((m :: rest).headD (0, 0)).1)) (swapTo spare m.1 m) = true := by
              unfold isFree
              rw [List.all_eq_true]
              intro o ho
              obtain ⟨o', _, rfl⟩ := List.mem_map.1 ho
              simp only [List.headD_cons, Bool.not_eq_true']
              have h5 : (swapTo spare m.1 m).1 = m.1 := by unfold swapTo; split <;> rfl
              rw [h5]
              unfold swapTo
              split
              · exact decide_eq_false (fun h => hm1.2 h.symm)
              · exact decide_eq_false (by assumption)
            rw [h4] at h3
            cases h3
      rw [hfree]
      simp only [if_true]
      omega
  · intro m hmem
    cases hf : freeAt left with
    | some k =>
      have h1 : (ordStep spare left out).1 = left.eraseIdx k := by simp [ordStep, hf]
      rw [h1] at hmem
      exact hinv m (List.mem_of_mem_eraseIdx hmem)
    | none =>
      have h1 : (ordStep spare left out).1 = left.map (swapTo spare (left.headD (0, 0)).1) := by simp [ordStep, hf]
      rw [h1] at hmem
      obtain ⟨o, ho, rfl⟩ := List.mem_map.1 hmem
      have h2 := hinv o ho
      unfold swapTo
      split
      · exact ⟨h2.2, h2.2⟩
      · exact h2

/-- The moves of a list that do something. -/
def pairs (xss : List (List Int)) : List (Int × Int) := (xss.map (fun m => (m.getD 0 0, m.getD 1 0))).filter (fun m => decide (m.1 ≠ m.2))
theorem pairs_snoc (xss : List (List Int)) (m : List Int) : pairs (xss ++ [m]) = pairs xss ++ (if m.getD 0 0 ≠ m.getD 1 0 then [(m.getD 0 0, m.getD 1 0)] else []) := by
  unfold pairs
  rw [List.map_append, List.filter_append]
  congr 1
  rw [List.map_cons, List.map_nil]
  generalize m.getD 0 0 = x
  generalize m.getD 1 0 = y
  by_cases h : x = y
  · subst h; rw [if_neg (by simp)]; simp
  · rw [if_pos h]; simp [h]
theorem pairs_length (xss : List (List Int)) : (pairs xss).length ≤ xss.length := by
  unfold pairs
  exact Nat.le_trans (List.length_filter_le _ _) (by simp)

/-- Does a move name the register? -/
def namesIn (xss : List (List Int)) (r : Int) : Bool := xss.any (fun m => decide (r ∈ m))

end Go.Proofs.Ythadaohnanpmiaa
