
/-
  FrontierAll: what both compute.
-/
import Derived.Test.YtonlidgmfmgcmaaFront
import Derived.Test.YtonlidgmfmgcmaaLoop
namespace Go.Proofs.Ytonlidgmfmgcmaa
open Go.RowKit

/-- A number that is new is laid into the list in its place, and is to be done. -/
def addF (s : List Int × List Int) (x : Int) : List Int × List Int := if x ∈ s.1 then s else (ins s.1 x, s.2 ++ [x])
noncomputable def stepF (g : List (List Int)) (b : Int) (out rest : List Int) : List Int × List Int := (frontP g b).foldl addF (out, rest)
noncomputable def fallTo (g : List (List Int)) : Nat → List Int → List Int → List Int
  | 0, out, _ => out
  | _ + 1, out, [] => out
  | f + 1, out, b :: rest => fallTo g f (stepF g b out rest).1 (stepF g b out rest).2
noncomputable def fallP (g : List (List Int)) (list : List Int) : List Int := if fits g then fallTo g (list.length + g.length + 1) [] list else []
theorem fallTo_nil (g : List (List Int)) (f : Nat) (out : List Int) : fallTo g f out [] = out := by cases f <;> rfl

structure FI (N : Nat) (out : List Int) : Prop where
  asc : Asc out
  rng : ∀ x ∈ out, 0 ≤ x ∧ x < (N : Int)
theorem FI.len {N : Nat} {out : List Int} (H : FI N out) : out.length ≤ N := by
  have h1 : out = ((List.range N).map Int.ofNat).filter (fun v => decide (v ∈ out)) := by
    rw [← sortU_range (n := N) (fun z hz => H.rng z hz), sortU_of_asc H.asc (fun z => Iff.rfl)]
  rw [h1]
  refine Nat.le_trans (List.length_filter_le _ _) ?_
  simp
theorem FI.nil (N : Nat) : FI N [] := ⟨List.Pairwise.nil, by simp⟩
theorem FI.add {N : Nat} {out work : List Int} {x : Int} (H : FI N out) (hx : 0 ≤ x ∧ x < (N : Int)) :
    FI N (addF (out, work) x).1 ∧ (addF (out, work) x).2.length + (N - (addF (out, work) x).1.length) = work.length + (N - out.length) := by
  unfold addF
  by_cases hm : x ∈ out
  · rw [if_pos hm]; exact ⟨H, rfl⟩
  · rw [if_neg hm]
    have h2 : FI N (ins out x) := ⟨ins_asc x H.asc, fun z hz => by
      rcases (ins_mem x z out).1 hz with rfl | h
      · exact hx
      · exact H.rng z h⟩
    refine ⟨h2, ?_⟩
    have h3 := h2.len
    have h4 := ins_len H.asc hm
    show (work ++ [x]).length + (N - (ins out x).length) = _
    rw [List.length_append]
    simp only [List.length_cons, List.length_nil]
    rw [h4] at h3 ⊢
    omega
theorem FI.fold {N : Nat} : ∀ (xs : List Int) {out work : List Int}, FI N out → (∀ x ∈ xs, 0 ≤ x ∧ x < (N : Int)) →
    FI N (xs.foldl addF (out, work)).1 ∧ (xs.foldl addF (out, work)).2.length + (N - (xs.foldl addF (out, work)).1.length) = work.length + (N - out.length)
  | [], out, work, H, _ => ⟨H, rfl⟩
  | x :: xs, out, work, H, hx => by
    have h1 := H.add (work := work) (hx x (by simp))
    have h2 := FI.fold xs (out := (addF (out, work) x).1) (work := (addF (out, work) x).2) h1.1 (fun y hy => hx y (by simp [hy]))
    rw [List.foldl_cons]
    exact ⟨h2.1, h2.2.trans h1.2⟩
theorem frontP_rng {g : List (List Int)} {b x : Int} (hx : x ∈ frontP g b) : 0 ≤ x ∧ x < (g.length : Int) := by
  unfold frontP at hx
  split at hx
  · obtain ⟨i, hi, _, rfl⟩ := filtTo_mem hx; omega
  · simp at hx
theorem frontP_small (g : List (List Int)) (b : Int) : (frontP g b).length ≤ g.length := by
  unfold frontP
  split
  · exact filtTo_len _ _
  · simp
/-- The state while a block's frontier is gone through. -/
theorem fold_next {xs : List Int} {s : List Int × List Int} {k : Nat} {x : Int} (hx : xs[k]? = some x) : (xs.take (k + 1)).foldl addF s = addF ((xs.take k).foldl addF s) x := by
  rw [take_succ_of hx, List.foldl_append]; rfl
theorem FI.at {N : Nat} {xs out work : List Int} (H : FI N out) (hx : ∀ x ∈ xs, 0 ≤ x ∧ x < (N : Int)) (k : Nat) :
    FI N ((xs.take k).foldl addF (out, work)).1 ∧ ((xs.take k).foldl addF (out, work)).2.length + (N - ((xs.take k).foldl addF (out, work)).1.length) = work.length + (N - out.length) :=
  FI.fold _ H (fun x h => hx x (List.mem_of_mem_take h))
theorem frontP_out {g : List (List Int)} {b : Int} (hb : ¬ (0 ≤ b ∧ b < (g.length : Int))) : frontP g b = [] := by
  unfold frontP
  rw [if_neg]
  intro h
  exact hb (inP_true.1 h).2
theorem frontP_in {g : List (List Int)} (hf : Fits g) {b : Nat} (hb : b < g.length) : frontP g (b : Int) = filtTo (frontB g b) g.length := by
  unfold frontP
  rw [if_pos (inP_true.2 ⟨hf, by omega, by omega⟩), Int.toNat_natCast]
theorem fallTo_len {g : List (List Int)} : ∀ (F : Nat) {out work : List Int}, FI g.length out → (fallTo g F out work).length ≤ g.length
  | 0, _, _, h => h.len
  | _ + 1, _, [], h => h.len
  | F + 1, _, b :: rest, h => fallTo_len F (FI.fold (frontP g b) (work := rest) h (fun _ hx => frontP_rng hx)).1
theorem fallP_len (g : List (List Int)) (list : List Int) : (fallP g list).length ≤ g.length := by
  unfold fallP
  split
  · exact fallTo_len _ (FI.nil _)
  · simp
theorem fallTo_step {g : List (List Int)} {F : Nat} {out rest V : List Int} {b : Int} {S : List Int × List Int} (h : fallTo g (F + 1) out (b :: rest) = V) (hs : stepF g b out rest = S) : fallTo g F S.1 S.2 = V := by
  rw [← hs]; exact h

end Go.Proofs.Ytonlidgmfmgcmaa
