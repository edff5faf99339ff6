
/-
  Lists of ints in ascending order without repeats: what sorting and leaving out repeats gives is what inserting one by one gives. No program in sight.
-/
import Derived.Test.YtonlidgmfmgcmaaGreatBase
import Derived.Lib.SlicesCompact
namespace Go.Proofs.YtonlidgmfmgcmaaGreat
open Go.RowKit

/-- Ascending, without repeats. -/
def Asc (xs : List Int) : Prop := xs.Pairwise (fun x y => x < y)
theorem asc_ext : ∀ {xs ys : List Int}, Asc xs → Asc ys → (∀ z, z ∈ xs ↔ z ∈ ys) → xs = ys
  | [], [], _, _, _ => rfl
  | [], y :: ys, _, _, h => by have := (h y).2 (by simp); simp at this
  | x :: xs, [], _, _, h => by have := (h x).1 (by simp); simp at this
  | x :: xs, y :: ys, hx, hy, h => by
    obtain ⟨hx1, hx2⟩ := List.pairwise_cons.1 hx
    obtain ⟨hy1, hy2⟩ := List.pairwise_cons.1 hy
    have hxy : x = y := by
      rcases List.mem_cons.1 ((h x).1 (by simp)) with h1 | h1
      · exact h1
      · rcases List.mem_cons.1 ((h y).2 (by simp)) with h2 | h2
        · exact h2.symm
        · have := hy1 x h1; have := hx1 y h2; omega
    subst hxy
    rw [asc_ext hx2 hy2 (fun z => ?_)]
    have hz := h z
    constructor
    · intro hm
      rcases List.mem_cons.1 (hz.1 (List.mem_cons_of_mem _ hm)) with h1 | h1
      · subst h1; have := hx1 z hm; omega
      · exact h1
    · intro hm
      rcases List.mem_cons.1 (hz.2 (List.mem_cons_of_mem _ hm)) with h1 | h1
      · subst h1; have := hy1 z hm; omega
      · exact h1

theorem ins_nil (x : Int) : ins [] x = [x] := rfl
theorem ins_cons (y : Int) (ys : List Int) (x : Int) : ins (y :: ys) x = if y < x then y :: ins ys x else if y = x then y :: ys else x :: y :: ys := by
  by_cases h1 : y < x
  · rw [if_pos h1]
    have ha : insAt (y :: ys) x = insAt ys x + 1 := by simp [insAt, h1]
    unfold ins
    rw [ha, List.getElem?_cons_succ]
    split
    · rfl
    · simp
  · rw [if_neg h1]
    have ha : insAt (y :: ys) x = 0 := by simp [insAt, h1]
    unfold ins
    rw [ha]
    by_cases h2 : y = x
    · simp [h2]
    · simp [h2]
theorem ins_mem (x z : Int) : ∀ xs : List Int, z ∈ ins xs x ↔ z = x ∨ z ∈ xs
  | [] => by rw [ins_nil]; simp
  | y :: ys => by
    rw [ins_cons]
    split
    · rw [List.mem_cons, ins_mem x z ys, List.mem_cons]
      constructor
      · rintro (h | h | h)
        · exact .inr (.inl h)
        · exact .inl h
        · exact .inr (.inr h)
      · rintro (h | h | h)
        · exact .inr (.inl h)
        · exact .inl h
        · exact .inr (.inr h)
    · split
      · rename_i h
        subst h
        simp
      · simp
theorem ins_asc (x : Int) : ∀ {xs : List Int}, Asc xs → Asc (ins xs x)
  | [], _ => by rw [ins_nil]; simp [Asc]
  | y :: ys, h => by
    obtain ⟨h1, h2⟩ := List.pairwise_cons.1 h
    rw [ins_cons]
    split
    · rename_i hy
      refine List.pairwise_cons.2 ⟨fun z hz => ?_, ins_asc x h2⟩
      rcases (ins_mem x z ys).1 hz with h3 | h3
      · subst h3; exact hy
      · exact h1 z h3
    · split
      · exact h
      · rename_i hy hne
        refine List.pairwise_cons.2 ⟨fun z hz => ?_, h⟩
        rcases List.mem_cons.1 hz with h3 | h3
        · subst h3; omega
        · have := h1 z h3; omega

/-- A list sorted, repeats left out. -/
def sortU (xs : List Int) : List Int := Lib.compact (xs.mergeSort fun x y => decide (x ≤ y))
theorem compact_asc (d : Array Int) (hs : ∀ i j, i ≤ j → j < d.size → d[i]! ≤ d[j]!) : ∀ m, m ≤ d.size → (∀ z, z ∈ Lib.compactUpTo d m ↔ ∃ j, j < m ∧ d[j]! = z) ∧ Asc (Lib.compactUpTo d m)
  | 0, _ => by simp [Lib.compactUpTo, Asc]
  | m + 1, hm => by
    obtain ⟨h1, h2⟩ := compact_asc d hs m (by omega)
    rw [Lib.compactUpTo_succ]
    by_cases hk : Lib.keeps d m = true
    · rw [if_pos hk]
      refine ⟨fun z => ?_, ?_⟩
      · rw [List.mem_append, h1]
        constructor
        · rintro (⟨j, hj, rfl⟩ | h)
          · exact ⟨j, by omega, rfl⟩
          · exact ⟨m, by omega, by simp at h; exact h.symm⟩
        · rintro ⟨j, hj, rfl⟩
          by_cases e : j = m
          · subst e; exact .inr (by simp)
          · exact .inl ⟨j, by omega, rfl⟩
      · refine List.pairwise_append.2 ⟨h2, by simp, fun x hx y hy => ?_⟩
        obtain ⟨j, hj, rfl⟩ := (h1 x).1 hx
        have hy : y = d[m]! := by simpa using hy
        subst hy
        have h3 := hs j (m - 1) (by omega) (by omega)
        have h4 := hs (m - 1) m (by omega) (by omega)
        have h5 : d[m]! ≠ d[m - 1]! := by
          simp only [Lib.keeps, decide_eq_true_eq] at hk
          rcases hk with h | h
          · omega
          · exact h
        omega
    · rw [if_neg hk, List.append_nil]
      have h5 : m ≠ 0 ∧ d[m]! = d[m - 1]! := by
        simp only [Lib.keeps, decide_eq_true_eq, not_or, Decidable.not_not] at hk
        exact hk
      refine ⟨fun z => ?_, h2⟩
      rw [h1]
      constructor
      · rintro ⟨j, hj, rfl⟩; exact ⟨j, by omega, rfl⟩
      · rintro ⟨j, hj, rfl⟩
        by_cases e : j = m
        · subst e; exact ⟨j - 1, by omega, h5.2.symm⟩
        · exact ⟨j, by omega, rfl⟩
theorem sortU_spec (xs : List Int) : (∀ z, z ∈ sortU xs ↔ z ∈ xs) ∧ Asc (sortU xs) := by
  have hp : (xs.mergeSort fun x y => decide (x ≤ y)).Pairwise (fun x y => decide (x ≤ y) = true) :=
    List.pairwise_mergeSort (fun a b c h1 h2 => by simp only [decide_eq_true_eq] at h1 h2 ⊢; omega) (fun a b => by simp only [Bool.or_eq_true, decide_eq_true_eq]; omega) xs
  have hm : ∀ z, z ∈ xs.mergeSort (fun x y => decide (x ≤ y)) ↔ z ∈ xs := fun z => (List.mergeSort_perm xs _).mem_iff
  unfold sortU Lib.compact
  generalize xs.mergeSort (fun x y => decide (x ≤ y)) = ys at hp hm
  have h := compact_asc ys.toArray (fun i j hij hj => by
    have hj : j < ys.length := by simpa using hj
    by_cases e : i = j
    · subst e; exact Int.le_refl _
    · have := (List.pairwise_iff_getElem.1 hp) i j (by omega) hj (by omega)
      simp only [decide_eq_true_eq] at this
      simpa [getElem!_pos, hj, show i < ys.length by omega] using this) ys.length (by simp)
  refine ⟨fun z => ?_, h.2⟩
  rw [h.1, ← hm, List.mem_iff_getElem]
  constructor
  · rintro ⟨j, hj, rfl⟩; exact ⟨j, hj, by simp [hj]⟩
  · rintro ⟨j, hj, rfl⟩; exact ⟨j, hj, by simp [hj]⟩
theorem sortU_mem {xs : List Int} {z : Int} : z ∈ sortU xs ↔ z ∈ xs := (sortU_spec xs).1 z
theorem sortU_asc (xs : List Int) : Asc (sortU xs) := (sortU_spec xs).2
theorem foldl_ins_spec : ∀ (xs acc : List Int), Asc acc → Asc (xs.foldl ins acc) ∧ ∀ z, z ∈ xs.foldl ins acc ↔ z ∈ acc ∨ z ∈ xs
  | [], acc, h => ⟨h, fun z => by simp⟩
  | x :: xs, acc, h => by
    obtain ⟨h1, h2⟩ := foldl_ins_spec xs (ins acc x) (ins_asc x h)
    refine ⟨h1, fun z => ?_⟩
    rw [List.foldl_cons, h2, ins_mem, List.mem_cons]
    constructor
    · rintro ((h | h) | h)
      · exact .inr (.inl h)
      · exact .inl h
      · exact .inr (.inr h)
    · rintro (h | h | h)
      · exact .inl (.inr h)
      · exact .inl (.inl h)
      · exact .inr h
theorem foldl_ins (xs : List Int) : xs.foldl ins [] = sortU xs := by
  obtain ⟨h1, h2⟩ := foldl_ins_spec xs [] (by simp [Asc])
  exact asc_ext h1 (sortU_asc xs) (fun z => by rw [h2, sortU_mem]; simp)
theorem sortU_of_asc {xs ys : List Int} (h : Asc ys) (hm : ∀ z, z ∈ ys ↔ z ∈ xs) : sortU xs = ys :=
  asc_ext (sortU_asc xs) h (fun z => by rw [sortU_mem, hm])
theorem sortU_len (xs : List Int) : (sortU xs).length ≤ xs.length := by
  rw [← foldl_ins]
  have key : ∀ (xs acc : List Int), (xs.foldl ins acc).length ≤ acc.length + xs.length := by
    intro xs
    induction xs with
    | nil => intro acc; simp
    | cons x xs ih =>
      intro acc
      have := ih (ins acc x)
      have := ins_length_le acc x
      simp only [List.foldl_cons, List.length_cons]
      omega
  have := key xs []
  simpa using this

end Go.Proofs.YtonlidgmfmgcmaaGreat
