
/-
  How many different numbers of a list are below 0, or not: the walks of the reference's l21Kinds (a sorted list without doubles) and of the program's 'different' (a map), and that both count the same.
-/
import Derived.Test.YtccfbnhlhjlmgaaDoorBase
import Derived.Maps.OwnSet
import Derived.Maps.Views
import Derived.Test.YtccfbnhlhjlmgaaDoorRd
import Derived.Test.YtccfbnhlhjlmgaaDoorLaw

namespace Go.Proofs.YtccfbnhlhjlmgaaDoor
open Go.RowKit Go.Maps

/-! ### the plain law -/
theorem snoc_ind {α : Type} {P : List α → Prop} (h0 : P []) (h1 : ∀ xs x, P xs → P (xs ++ [x])) (xs : List α) : P xs := by
  have : ∀ ys : List α, P ys.reverse := by
    intro ys
    induction ys with
    | nil => exact h0
    | cons y ys ih => rw [List.reverse_cons]; exact h1 _ _ ih
  have h := this xs.reverse
  rwa [List.reverse_reverse] at h
def kinds (xs : List Int) (below : Bool) : List Int := xs.foldl (fun out x => if decide (x < 0) = below then ins out x else out) []
theorem kinds_snoc (xs : List Int) (below : Bool) (x : Int) : kinds (xs ++ [x]) below = if decide (x < 0) = below then ins (kinds xs below) x else kinds xs below := by
  simp [kinds, List.foldl_append]
theorem kinds_length (below : Bool) : ∀ xs : List Int, (kinds xs below).length ≤ xs.length := by
  refine snoc_ind (by simp [kinds]) ?_
  · intro xs x ih
    rw [kinds_snoc]
    split
    · have := ins_length_le (kinds xs below) x; simp; omega
    · simp; omega

def Rising (xs : List Int) : Prop := xs.Pairwise (· < ·)
theorem ins_split (xs : List Int) (x : Int) : (∀ y ∈ xs.take (insAt xs x), y < x) ∧ insAt xs x ≤ xs.length ∧ (∀ y, xs[insAt xs x]? = some y → x ≤ y) := by
  induction xs with
  | nil => simp [insAt]
  | cons z zs ih =>
    by_cases h : z < x
    · have e : insAt (z :: zs) x = insAt zs x + 1 := by simp [insAt, h]
      rw [e]
      refine ⟨?_, by have := ih.2.1; simp; omega, by simpa using ih.2.2⟩
      intro y hy
      simp at hy
      rcases hy with rfl | hy
      · exact h
      · exact ih.1 y hy
    · have e : insAt (z :: zs) x = 0 := by simp [insAt, h]
      rw [e]
      refine ⟨by simp, by simp, ?_⟩
      intro y hy
      simp at hy
      omega
theorem mem_ins (xs : List Int) (x y : Int) : y ∈ ins xs x ↔ y ∈ xs ∨ y = x := by
  unfold ins
  split
  · rename_i h
    have : x ∈ xs := List.mem_of_getElem? h
    constructor
    · exact .inl
    · rintro (h | rfl)
      · exact h
      · exact this
  · have e : xs = xs.take (insAt xs x) ++ xs.drop (insAt xs x) := (List.take_append_drop _ _).symm
    constructor
    · intro h
      simp only [List.mem_append, List.mem_cons] at h
      rcases h with h | h | h
      · exact .inl (List.mem_of_mem_take h)
      · exact .inr h
      · exact .inl (List.mem_of_mem_drop h)
    · intro h
      simp only [List.mem_append, List.mem_cons]
      rcases h with h | h
      · rw [e] at h
        rcases List.mem_append.1 h with h | h
        · exact .inl h
        · exact .inr (.inr h)
      · exact .inr (.inl h)
theorem rising_ins (xs : List Int) (x : Int) (h : Rising xs) : Rising (ins xs x) := by
  unfold ins
  split
  · exact h
  · rename_i hne
    obtain ⟨h1, h2, h3⟩ := ins_split xs x
    have e : xs = xs.take (insAt xs x) ++ xs.drop (insAt xs x) := (List.take_append_drop _ _).symm
    have h' := h
    unfold Rising at h'
    rw [e, List.pairwise_append] at h'
    obtain ⟨p1, p2, p3⟩ := h'
    unfold Rising
    rw [List.pairwise_append, List.pairwise_cons]
    have hx : ∀ y ∈ xs.drop (insAt xs x), x < y := by
      intro y hy
      cases hd : xs.drop (insAt xs x) with
      | nil => rw [hd] at hy; cases hy
      | cons z zs =>
        have hz : xs[insAt xs x]? = some z := by
          have : (xs.drop (insAt xs x))[0]? = some z := by rw [hd]; rfl
          rwa [List.getElem?_drop, Nat.add_zero] at this
        have h4 := h3 z hz
        have h5 : z ≠ x := by rintro rfl; exact hne hz
        rw [hd] at hy p2
        rw [List.pairwise_cons] at p2
        rcases List.mem_cons.1 hy with rfl | hy
        · omega
        · have := p2.1 y hy; omega
    refine ⟨p1, ⟨hx, p2⟩, ?_⟩
    intro y hy z hz
    have := h1 y hy
    rcases List.mem_cons.1 hz with rfl | hz
    · exact this
    · have := hx z hz; omega
theorem kinds_spec (below : Bool) : ∀ xs : List Int, Rising (kinds xs below) ∧ ∀ y, y ∈ kinds xs below ↔ y ∈ xs ∧ decide (y < 0) = below := by
  refine snoc_ind ⟨List.Pairwise.nil, by simp [kinds]⟩ ?_
  · intro xs x ih
    rw [kinds_snoc]
    obtain ⟨i1, i2⟩ := ih
    split
    · rename_i hb
      refine ⟨rising_ins _ _ i1, fun y => ?_⟩
      rw [mem_ins, i2]
      simp only [List.mem_append, List.mem_singleton]
      constructor
      · rintro (⟨h, h'⟩ | rfl)
        · exact ⟨.inl h, h'⟩
        · exact ⟨.inr rfl, hb⟩
      · rintro ⟨h | rfl, h'⟩
        · exact .inl ⟨h, h'⟩
        · exact .inr rfl
    · rename_i hb
      refine ⟨i1, fun y => ?_⟩
      rw [i2]
      simp only [List.mem_append, List.mem_singleton]
      constructor
      · rintro ⟨h, h'⟩
        exact ⟨.inl h, h'⟩
      · rintro ⟨h | rfl, h'⟩
        · exact ⟨h, h'⟩
        · exact absurd h' hb
theorem rising_nodup {xs : List Int} (h : Rising xs) : xs.Nodup := List.Pairwise.imp (fun {a b} (h : a < b) => by omega) h

/-- A map with bool elements that is used as a set of ints. -/
structure SetIs (D : DataW Unit) (L : List Int) : Prop where
  tidy : Tidy D
  nodup : L.Nodup
  has : ∀ y, Maps.has D (.int .i64 y) = decide (y ∈ L)
  size : Maps.size D = L.length
  look : ∀ y, D.atKey (.int .i64 y) (.lit (.bool false)) = .lit (.bool (decide (y ∈ L)))
theorem SetIs.empty : SetIs (.map []) [] := ⟨tidy_empty, List.nodup_nil, fun y => by simp [has_eq], rfl, fun y => by simp [DataW.atKey]⟩
def addTo (L : List Int) (x : Int) : List Int := if x ∈ L then L else L ++ [x]
theorem mem_addTo (L : List Int) (x y : Int) : y ∈ addTo L x ↔ y ∈ L ∨ y = x := by
  unfold addTo
  split
  · constructor
    · exact .inl
    · rintro (h | rfl)
      · exact h
      · assumption
  · simp
theorem SetIs.put {D : DataW Unit} {L : List Int} (h : SetIs D L) (x : Int) : SetIs (D.put (.int .i64 x) (.lit (.bool true))) (addTo L x) := by
  have hk : WideAt.IsKeyLit (.int .i64 x) := trivial
  refine ⟨h.tidy.put hk _, ?_, fun y => ?_, ?_, fun y => ?_⟩
  · unfold addTo
    split
    · exact h.nodup
    · rename_i hx
      rw [List.nodup_append]
      refine ⟨h.nodup, by simp, ?_⟩
      intro a ha b hb
      simp at hb
      subst hb
      rintro rfl
      exact hx ha
  · by_cases hy : y = x
    · subst hy
      rw [has_put_same h.tidy.isMap hk]
      simp [mem_addTo]
    · rw [has_put_other (by simpa using hy), h.has y]
      simp [mem_addTo, hy]
  · rw [size_put h.tidy, h.has x, h.size]
    unfold addTo
    by_cases hx : x ∈ L <;> simp [hx]
  · by_cases hy : y = x
    · subst hy
      rw [atKey_put_same h.tidy.isMap hk]
      simp [mem_addTo]
    · rw [atKey_put_other (by simpa using hy), h.look y]
      simp [mem_addTo, hy]

theorem same_length {A B : List Int} (ha : A.Nodup) (hb : B.Nodup) (h : ∀ y, y ∈ A ↔ y ∈ B) : A.length = B.length :=
  ((List.perm_ext_iff_of_nodup ha hb).2 (fun {y} => h y)).length_eq

/-! ### the walks -/
theorem law_int : Keyed Tryd.prog 3 := int_keyed Tryd.underlying3

/-- The numbers that hold, each once, in the order in which they come. -/
def differ (p : Int → Bool) (xs : List Int) : List Int := xs.foldl (fun L x => if p x then addTo L x else L) []
theorem differ_snoc (p : Int → Bool) (xs : List Int) (x : Int) : differ p (xs ++ [x]) = if p x then addTo (differ p xs) x else differ p xs := by
  simp [differ, List.foldl_append]

theorem differ_spec (p : Int → Bool) : ∀ xs : List Int, (differ p xs).Nodup ∧ ∀ y, y ∈ differ p xs ↔ y ∈ xs ∧ p y = true := by
  refine snoc_ind ⟨List.nodup_nil, by simp [differ]⟩ ?_
  intro xs x ih
  rw [differ_snoc]
  obtain ⟨i1, i2⟩ := ih
  by_cases hp : p x = true
  · rw [if_pos hp]
    refine ⟨?_, fun y => ?_⟩
    · unfold addTo
      split
      · exact i1
      · rename_i hx
        rw [List.nodup_append]
        refine ⟨i1, by simp, ?_⟩
        intro a ha b hb
        simp at hb
        subst hb
        rintro rfl
        exact hx ha
    · rw [mem_addTo, i2]
      simp only [List.mem_append, List.mem_singleton]
      constructor
      · rintro (⟨h, h'⟩ | rfl)
        · exact ⟨.inl h, h'⟩
        · exact ⟨.inr rfl, hp⟩
      · rintro ⟨h | rfl, h'⟩
        · exact .inl ⟨h, h'⟩
        · exact .inr rfl
  · rw [if_neg hp]
    refine ⟨i1, fun y => ?_⟩
    rw [i2]
    simp only [List.mem_append, List.mem_singleton]
    constructor
    · rintro ⟨h, h'⟩
      exact ⟨.inl h, h'⟩
    · rintro ⟨h | rfl, h'⟩
      · exact ⟨h, h'⟩
      · exact absurd h' hp
/-- The program and the reference count the same. -/
theorem counts_same (xs : List Int) (below : Bool) (p : Int → Bool) (h : ∀ y, p y = true ↔ decide (y < 0) = below) : (differ p xs).length = (kinds xs below).length := by
  have h1 := differ_spec p xs
  have h2 := kinds_spec below xs
  exact same_length h1.1 (rising_nodup h2.1) (fun y => by rw [h1.2, h2.2, h])

end Go.Proofs.YtccfbnhlhjlmgaaDoor

/-
  The reference draws a short list of small numbers (l21Numbers); wwHas looks a number up in a list; the walk of the law FnColoursUsed.
-/
namespace Go.Proofs.YtccfbnhlhjlmgaaDoor
open Go.RowKit

/-- A short list of ints was drawn. -/
def DrewInts (w : World) (e : Ending) (w' : World) : Prop :=
  ∃ a cap xs, e = .returned (.slice a xs.length cap) ∧ IntsAt w' a xs.length cap xs ∧ xs.length ≤ 8 ∧ (∀ x ∈ xs, (Lit.int .i64 x).wf = true) ∧ Below w.heap.size w w'

/-! ### FnColoursUsed -/
theorem length_split {α : Type} (p : α → Bool) : ∀ l : List α, (l.filter p).length + (l.filter (fun x => !p x)).length = l.length := by
  intro l
  induction l with
  | nil => rfl
  | cons x l ih => by_cases h : p x <;> simp [h] <;> omega
/-- Colours and slots of a list are its different numbers. -/
theorem both_kinds (xs : List Int) : (kinds xs false).length + (kinds xs true).length = (differ (fun _ => true) xs).length := by
  obtain ⟨n1, m1⟩ := differ_spec (fun _ => true) xs
  obtain ⟨r1, k1⟩ := kinds_spec false xs
  obtain ⟨r2, k2⟩ := kinds_spec true xs
  rw [← length_split (fun y : Int => decide (0 ≤ y)) (differ (fun _ => true) xs)]
  congr 1
  · refine same_length (rising_nodup r1) (n1.filter _) (fun y => ?_)
    rw [List.mem_filter, k1, m1]
    simp
  · refine same_length (rising_nodup r2) (n1.filter _) (fun y => ?_)
    rw [List.mem_filter, k2, m1]
    simp

theorem bytes_of_row {w : World} {a : Option Addr} {len cap : Nat} {zs : List Int} (h : IsRow .u8 w a len cap zs) : BytesRd w a len (zs.take len) := by
  obtain ⟨h1, h2, h3⟩ := rowAt_of_row h
  refine ⟨h2, h1, fun x hx => ?_⟩
  have := h3 x hx
  simp [Lit.wf, IntKind.min, IntKind.max, IntKind.signed, IntKind.bits] at this
  exact ⟨by omega, by omega⟩
theorem cap_of_row {k : IntKind} {w : World} {a : Option Addr} {len cap : Nat} {zs : List Int} (h : IsRow k w a len cap zs) : len ≤ cap := by
  rcases h with ⟨_, rfl, rfl, _⟩ | ⟨_, _, h, _⟩
  · exact Nat.le_refl _
  · exact h
theorem BytesRd.later {w w' : World} {a : Option Addr} {len : Nat} {bs : List Int} (h : BytesRd w a len bs) (hb : Below w.heap.size w w') : BytesRd w' a len bs := ⟨h.length, h.row.later hb, h.byte⟩

end Go.Proofs.YtccfbnhlhjlmgaaDoor
