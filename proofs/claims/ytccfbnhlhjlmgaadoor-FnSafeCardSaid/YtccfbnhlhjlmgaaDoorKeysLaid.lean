/-
  (no filter) What the row's condition on the tables gives the walks: the key words.
-/
import Derived.Test.YtccfbnhlhjlmgaaDoorOpsLaid
import Derived.Test.YtccfbnhlhjlmgaaDoorNm
namespace Go.Proofs.YtccfbnhlhjlmgaaDoor
open Go.ChangeShapes Go.WideShapes Go.ChangeAt Go.RowKit

def keysDat : List (DataW Unit) := match (Rows.laid_loop_example_wholeway_impl_keys (H := Unit)) with
  | .agg xs => xs
  | _ => []
theorem keysDat_agg : (Rows.laid_loop_example_wholeway_impl_keys (H := Unit)) = .agg keysDat := rfl
theorem keysDat_at (i : Nat) (h : i < 9) : ∃ s, keysE[i]? = some s ∧ keysDat[i]? = some (.lit (.string s.data.toList)) := by
  have hc : i = 0 ∨ i = 1 ∨ i = 2 ∨ i = 3 ∨ i = 4 ∨ i = 5 ∨ i = 6 ∨ i = 7 ∨ i = 8 := by omega
  rcases hc with rfl | rfl | rfl | rfl | rfl | rfl | rfl | rfl | rfl
  · exact ⟨_, rfl, rfl⟩
  · exact ⟨_, rfl, rfl⟩
  · exact ⟨_, rfl, rfl⟩
  · exact ⟨_, rfl, rfl⟩
  · exact ⟨_, rfl, rfl⟩
  · exact ⟨_, rfl, rfl⟩
  · exact ⟨_, rfl, rfl⟩
  · exact ⟨_, rfl, rfl⟩
  · exact ⟨_, rfl, rfl⟩
theorem str_of_data {s t : ByteArray} (h : s.data.toList = t.data.toList) : s = t := by
  cases s with
  | mk a => cases t with
    | mk b =>
      have : a = b := Array.toList_inj.1 h
      rw [this]
theorem keys_cells {enc : TypeId × Value → Unit} {W : World} {sp : Nat → Bool} {hd : Bool} {fuel : Nat} {cs : List Value} {p : List MemPlace}
    (h : DataW.trod enc Tryd.prog W 0 sp hd fuel 138 cs = some (Rows.laid_loop_example_wholeway_impl_keys, p)) :
    ∀ (i : Nat) s, keysE[i]? = some s → cs[i]? = some (.string s) := by
  obtain ⟨xs, m, rfl, hx, hlen, hn, hel⟩ := DataW.trod_array Tryd.underlying138 h
  intro i s hs
  have hi : i < 9 := (List.getElem?_eq_some_iff.1 hs).1
  have h1 := hel i hi
  rw [size1E] at h1
  have hxi : xs[i]? = some (xs[i]'(by omega)) := List.getElem?_eq_getElem (by omega)
  rw [hxi] at h1
  obtain ⟨s', e0, e1, _⟩ := DataW.trod_string Tryd.underlying9 h1
  have hd : xs.map (·.1) = keysDat := by
    have := congrArg Prod.fst hx
    rw [keysDat_agg] at this
    exact (DataW.agg.inj this).symm
  obtain ⟨s2, k1, k2⟩ := keysDat_at i hi
  rw [hs] at k1
  cases k1
  have hdi : (xs.map (·.1))[i]? = some (xs[i]'(by omega)).1 := by rw [List.getElem?_map, hxi]; rfl
  rw [hd, k2, e1] at hdi
  have h3 := Option.some.inj hdi
  simp only [DataW.lit.injEq, Lit.string.injEq] at h3
  have h4 := str_of_data h3
  subst h4
  rw [Nat.mul_one] at e0
  exact take1_dropE rfl e0
theorem keys_of_laid {W : World} (h : laidMetH Tryd.prog laid2 W) : KeysAt W := by
  rw [MakeChecks.laidMetH_plain _ _ _ (by kernel_rfl)] at h
  obtain ⟨ps, ⟨g0, t0, cs0, f0, p0, q0, hg0, ht0, hv0, hd0, _⟩, _, _⟩ := h
  obtain rfl := Option.some.inj (gKeys.symm.trans hg0)
  obtain rfl := Option.some.inj (tKeys.symm.trans ht0)
  intro i s hs
  rw [Nat.zero_add, World.var?_cell hg0 hv0, ← Array.getElem?_toList]
  exact keys_cells hd0 i s hs

end Go.Proofs.YtccfbnhlhjlmgaaDoor
