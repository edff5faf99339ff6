
/-
  What the laws' rows hand over of slices of structs, in the words of the walks.
-/
import Derived.Test.YtonlidgmfmgcmaaGreatCore
import Derived.Test.YtonlidgmfmgcmaaGreatLaw
import Derived.Deep.Slices
import Derived.WideShapes
import Derived.ChangeSame
namespace Go.Proofs.YtonlidgmfmgcmaaGreat
open Go.RowKit Go.Deep Go.ChangeShapes Go.WideShapes

section
variable {H : Type} {enc : TypeId × Value → H} {P : Program} {W : World} {base : Nat} {held : Bool}

theorem ints_of_trod {t e : TypeId} {fuel : Nat} {cs : List Value} {y : DataW H × List MemPlace} (ht : P.underlying t = some (.slice e)) (he : P.underlying e = some (.int .i64)) (hc : P.cellsOf e = 1)
    (h : DataW.trod enc P W base (fun _ => true) held fuel t cs = some y) : ∃ a cap xs, cs = [.slice a (List.length xs) cap] ∧ (List.length xs ≤ maxLen ∧ (a = none → cap = 0)) ∧ IntsRd W a (List.length xs) xs := by
  rcases open_ints ht he hc h with ⟨rfl, _⟩ | ⟨x, l, c, zs, rfl, _, hl, hm, hz, _, hcell, hwz⟩
  · exact ⟨none, 0, [], rfl, ⟨Nat.zero_le _, fun _ => rfl⟩, rfl, .inl rfl⟩
  · have hrow : IsRow .i64 W (some x) l c zs := .inr ⟨x, rfl, hl, hm, by simpa using hz, hcell, hwz⟩
    have h1 := ints_of_row hrow
    have h2 := h1.length
    refine ⟨some x, c, zs.take l, by rw [h2], ⟨by omega, by rintro ⟨⟩⟩, ?_⟩
    rw [h2]
    exact h1

theorem rows_of_trod {α : Type} {s : Nat} {R : World → List Value → α → Prop} {t e : TypeId} {fuel : Nat} {cs : List Value} {y : DataW H × List MemPlace} (ht : P.underlying t = some (.slice e)) (hs : P.cellsOf e = s) (h0 : 0 < s)
    (hel : ∀ n cs y, DataW.trod enc P W base (fun _ => true) held n e cs = some y → ∃ d, R W cs d) (h : DataW.trod enc P W base (fun _ => true) held fuel t cs = some y) :
    ∃ a cap xs, cs = [.slice a (List.length xs) cap] ∧ (List.length xs ≤ maxLen ∧ (a = none → cap = 0)) ∧ SliceRd s R W a (List.length xs) xs := by
  rcases open_slice ht h with ⟨rfl, _⟩ | ⟨a, len, cap, m, n, D, Pl, rfl, _, hl, hm, hmm, _, hx⟩
  · exact ⟨none, 0, [], rfl, ⟨Nat.zero_le _, fun _ => rfl⟩, rfl, [], .inl rfl, rfl, by simp, by simp⟩
  · simp only [if_true] at hmm
    subst hmm
    rw [hs] at hx
    have hget : ∀ i, i < len → ∃ q : List Value × α, q.1.length = s ∧ (∀ j v, q.1[j]? = some v → W.cell? ((a.add (i * s)).add j) = some v) ∧ R W q.1 q.2 := by
      intro i hi
      obtain ⟨cs', h1, h2⟩ := hx i (by omega)
      obtain ⟨d, hd⟩ := hel _ _ _ h2
      obtain ⟨_, h3, h4⟩ := World.cells?_some h1
      refine ⟨(cs', d), h3, fun j v hv => ?_, hd⟩
      have hv2 : cs'[j]? = some v := hv
      rw [h4 j (by have := (List.getElem?_eq_some_iff.1 hv2).1; omega)]
      exact hv2
    by_cases hl0 : len = 0
    · subst hl0
      exact ⟨some a, m, [], rfl, ⟨Nat.zero_le _, by rintro ⟨⟩⟩, rfl, [], .inl rfl, rfl, by simp, by simp⟩
    obtain ⟨q0, _⟩ := hget 0 (by omega)
    haveI : Inhabited (List Value × α) := ⟨q0⟩
    obtain ⟨q, hq⟩ := choose_lt hget
    have hlen : ((List.range len).map (fun i => (q i).2)).length = len := by simp
    have hcl : ∀ c ∈ (List.range len).map (fun i => (q i).1), c.length = s := by
      intro c hc
      obtain ⟨i, hi, rfl⟩ := List.mem_map.1 hc
      exact (hq i (by simpa using hi)).1
    obtain ⟨b, off, spot⟩ := a
    have hspot : spot = none := by
      have h2 := (hq 0 (by omega)).1
      have h1 := (hq 0 (by omega)).2.1 0 ((q 0).1[0]'(by omega)) (List.getElem?_eq_getElem _)
      rw [Nat.zero_mul] at h1
      simpa [Addr.add] using World.cell?_spot h1
    subst hspot
    refine ⟨some ⟨b, off, none⟩, m, (List.range len).map (fun i => (q i).2), by rw [hlen], ⟨by rw [hlen]; omega, by rintro ⟨⟩⟩, ?_⟩
    rw [hlen]
    refine ⟨hlen, (List.range len).map (fun i => (q i).1), .inr ⟨b, off, rfl, fun k v hv => ?_⟩, by simp, hcl, fun i c x hc hx => ?_⟩
    · have hfl := flatten_len hcl
      have hk := (List.getElem?_eq_some_iff.1 hv).1
      rw [hfl, List.length_map, List.length_range] at hk
      have hi : k / s < len := by rw [Nat.div_lt_iff_lt_mul h0]; exact hk
      have hj : k % s < s := Nat.mod_lt _ h0
      have hg : ((List.range len).map (fun i => (q i).1)).flatten[k / s * s + k % s]? = (q (k / s)).1[k % s]? := flatten_get hcl (by simp [hi]) hj
      rw [Nat.div_add_mod'] at hg
      rw [hg] at hv
      have h5 := (hq (k / s) hi).2.1 _ _ hv
      rw [add_add, Nat.div_add_mod'] at h5
      have hadd : (⟨b, off, none⟩ : Addr).add k = ⟨b, off + k, none⟩ := by unfold Addr.add; split <;> simp_all
      rwa [hadd] at h5
    · rw [List.getElem?_map] at hc hx
      obtain ⟨i1, hi1, rfl⟩ := Option.map_eq_some_iff.1 hc
      obtain ⟨i2, hi2, rfl⟩ := Option.map_eq_some_iff.1 hx
      rw [hi1] at hi2
      cases hi2
      obtain ⟨hi3, hi4⟩ := List.getElem?_eq_some_iff.1 hi1
      simp at hi3 hi4
      subst hi4
      exact (hq i hi3).2.2
end

end Go.Proofs.YtonlidgmfmgcmaaGreat
