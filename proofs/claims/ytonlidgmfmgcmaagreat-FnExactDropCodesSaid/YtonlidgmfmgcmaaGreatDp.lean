
/-
  DropCodes in plain words: what both packages give.
-/
import Derived.Test.YtonlidgmfmgcmaaGreatCodesNeeded
namespace Go.Proofs.YtonlidgmfmgcmaaGreat
open Go.RowKit
set_option linter.unusedVariables false

def dropIns (L : List Int) (x : InsD) : InsD := if x.op = 14 then ⟨x.op, x.to, x.args, idxInt x.num L⟩ else x
def dropBlock (L : List Int) (b : BlockD) : BlockD := ⟨b.phis, b.ins.map (dropIns L), b.jump, b.jon, b.nx⟩
def dropCode (L : List Int) (c : CodeD) : CodeD := ⟨c.params, c.regs, c.blocks.map (dropBlock L)⟩
def dropAt (us : List CodeD) (L : List Int) (k : Int) : CodeD :=
  match us[k.toNat]? with
  | some c => dropCode L c
  | none => ⟨0, 0, []⟩
def dropP (us : List CodeD) : List CodeD := (cnP us).map (dropAt us (cnP us))
theorem cnP_at {us : List CodeD} {k : Int} (h : k ∈ cnP us) : ∃ (m : Nat) (c : CodeD), k = (m : Int) ∧ m < us.length ∧ us[m]? = some c := by
  unfold cnP at h
  split at h
  · unfold filtTo at h
    obtain ⟨m, hm, rfl⟩ := List.mem_map.1 h
    have hm := (List.mem_range.1 (List.mem_filter.1 hm).1)
    exact ⟨m, _, rfl, hm, List.getElem?_eq_getElem hm⟩
  · cases h
theorem dropAt_of {us : List CodeD} {L : List Int} {m : Nat} {c : CodeD} (h : us[m]? = some c) : dropAt us L (m : Int) = dropCode L c := by
  unfold dropAt
  rw [Int.toNat_natCast, h]
theorem szS_map {α β : Type} {f : α → β} {sz : β → Nat} {sz' : α → Nat} (h : ∀ x, sz (f x) = sz' x) (xs : List α) : szS sz (xs.map f) = szS sz' xs := by
  unfold szS sumOf
  rw [List.length_map, List.map_map]
  congr 2
  apply List.map_congr_left
  intro x _
  exact h x
theorem szIns_drop (L : List Int) (x : InsD) : szInsD (dropIns L x) = szInsD x := by
  unfold dropIns
  split <;> rfl
theorem szBlock_drop (L : List Int) (b : BlockD) : szBlockD (dropBlock L b) = szBlockD b := by
  unfold szBlockD dropBlock
  rw [szS_map (szIns_drop L)]
theorem szCode_drop (L : List Int) (c : CodeD) : szCodeD (dropCode L c) = szCodeD c := by
  unfold szCodeD dropCode
  rw [szS_map (szBlock_drop L)]
theorem szS_sum {α : Type} (sz : α → Nat) (xs : List α) : szS sz xs = (xs.map (fun x => sz x + 1)).sum := by
  unfold szS sumOf
  induction xs with
  | nil => rfl
  | cons x xs ih => simp only [List.length_cons, List.map_cons, List.sum_cons] at ih ⊢; omega
theorem sum_filter {α : Type} (p : α → Bool) (f : α → Nat) (l : List α) : ((l.filter p).map f).sum ≤ (l.map f).sum := by
  induction l with
  | nil => exact Nat.le_refl _
  | cons x xs ih =>
    by_cases h : p x = true
    · rw [List.filter_cons_of_pos h]
      simp only [List.map_cons, List.sum_cons]; omega
    · rw [List.filter_cons_of_neg h]
      simp only [List.map_cons, List.sum_cons]; omega
theorem dropP_size (us : List CodeD) : szS szCodeD (dropP us) ≤ szS szCodeD us := by
  have hr : us.map (fun c => szCodeD c + 1) = (List.range us.length).map (fun i : Nat => szCodeD (dropAt us (cnP us) (i : Int)) + 1) := by
    apply List.ext_getElem
    · simp
    · intro i h1 h2
      simp only [List.length_map] at h1
      simp only [List.getElem_map, List.getElem_range]
      rw [dropAt_of (List.getElem?_eq_getElem h1), szCode_drop]
  rw [szS_sum, szS_sum, hr]
  unfold dropP
  obtain ⟨L, hL⟩ : ∃ L, L = cnP us := ⟨_, rfl⟩
  rw [← hL, List.map_map]
  have hl : ∃ p : Nat → Bool, L = ((List.range us.length).filter p).map (fun i : Nat => (i : Int)) := by
    rw [hL]
    unfold cnP
    split
    · exact ⟨_, rfl⟩
    · exact ⟨fun _ => false, by simp⟩
  obtain ⟨p, hp⟩ := hl
  have he : (L.map ((fun c => szCodeD c + 1) ∘ dropAt us L)) = (((List.range us.length).filter p).map (fun i : Nat => szCodeD (dropAt us L (i : Int)) + 1)) := by
    conv => lhs; rw [hp]
    rw [List.map_map]
    rw [← hp]
    rfl
  rw [he]
  exact sum_filter p _ _
theorem dropP_length (us : List CodeD) : (dropP us).length = (cnP us).length := by simp [dropP]

/-- A list whose first j were mapped. -/
def hm {α : Type} (f : α → α) (xs : List α) (j : Nat) : List α := (xs.take j).map f ++ xs.drop j
section
variable {α : Type} {f : α → α} {xs : List α}
theorem hm_start : hm f xs 0 = xs := by simp [hm]
theorem hm_end {n : Nat} (h : xs.length = n) : hm f xs n = xs.map f := by simp [hm, ← h]
theorem hm_get {j : Nat} (hj : j < xs.length) : (hm f xs j)[j]? = xs[j]? := by
  rw [hm, List.getElem?_append_right (by rw [List.length_map, List.length_take]; omega), List.length_map, List.length_take, List.getElem?_drop]
  congr 1; omega
theorem hm_set {j : Nat} {x : α} (h : xs[j]? = some x) : (hm f xs j).set j (f x) = hm f xs (j + 1) := by
  have hj := (List.getElem?_eq_some_iff.1 h).1
  rw [hm, hm, take_succ_of h, List.map_append, List.set_append_right _ _ (by rw [List.length_map, List.length_take]; omega), List.length_map, List.length_take, show j - min j xs.length = 0 by omega, List.drop_eq_getElem_cons hj, List.set_cons_zero, List.append_assoc]
  rfl
theorem hm_same {j : Nat} {x : α} (h : xs[j]? = some x) (hf : f x = x) : hm f xs (j + 1) = hm f xs j := by
  have hj := (List.getElem?_eq_some_iff.1 h).1
  have hx : xs[j] = x := (List.getElem?_eq_some_iff.1 h).2
  rw [hm, hm, take_succ_of h, List.map_append, List.drop_eq_getElem_cons hj, List.append_assoc, List.map_cons, List.map_nil, hf, hx]
  rfl
end

end Go.Proofs.YtonlidgmfmgcmaaGreat
