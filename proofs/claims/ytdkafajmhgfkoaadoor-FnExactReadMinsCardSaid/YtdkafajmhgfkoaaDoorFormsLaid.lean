
/-
  What the row's condition on the table of the forms gives the walks.
-/
import Derived.Test.YtdkafajmhgfkoaaDoorMv
import Derived.Test.YtdkafajmhgfkoaaDoorRows
import Derived.ProofKit
import Derived.LaidMore
import Derived.OpenShut
import Derived.Stop.Joined
namespace Go.Proofs.YtdkafajmhgfkoaaDoor
open Go.ChangeShapes Go.WideShapes Go.ChangeAt Go.RowKit

def formsD (H : Type) : List (DataW H) := match (Rows.laid_loop_example_wholeway_impl_forms (H := H)) with
  | .agg xs => xs
  | _ => []
theorem formsD_agg (H : Type) : (Rows.laid_loop_example_wholeway_impl_forms (H := H)) = .agg (formsD H) := rfl
theorem formsD_at (H : Type) (i : Nat) (h : i < 23) : ∃ bs, (formsD H)[i]? = some (.agg [.lit (.string bs), .lit (.int .i64 (fmL.getD i 0))]) := by
  have hc : i = 0 ∨ i = 1 ∨ i = 2 ∨ i = 3 ∨ i = 4 ∨ i = 5 ∨ i = 6 ∨ i = 7 ∨ i = 8 ∨ i = 9 ∨ i = 10 ∨ i = 11 ∨ i = 12 ∨ i = 13 ∨ i = 14 ∨ i = 15 ∨ i = 16 ∨ i = 17 ∨ i = 18 ∨ i = 19 ∨ i = 20 ∨ i = 21 ∨ i = 22 := by omega
  rcases hc with rfl | rfl | rfl | rfl | rfl | rfl | rfl | rfl | rfl | rfl | rfl | rfl | rfl | rfl | rfl | rfl | rfl | rfl | rfl | rfl | rfl | rfl | rfl
  · exact ⟨_, rfl⟩
  · exact ⟨_, rfl⟩
  · exact ⟨_, rfl⟩
  · exact ⟨_, rfl⟩
  · exact ⟨_, rfl⟩
  · exact ⟨_, rfl⟩
  · exact ⟨_, rfl⟩
  · exact ⟨_, rfl⟩
  · exact ⟨_, rfl⟩
  · exact ⟨_, rfl⟩
  · exact ⟨_, rfl⟩
  · exact ⟨_, rfl⟩
  · exact ⟨_, rfl⟩
  · exact ⟨_, rfl⟩
  · exact ⟨_, rfl⟩
  · exact ⟨_, rfl⟩
  · exact ⟨_, rfl⟩
  · exact ⟨_, rfl⟩
  · exact ⟨_, rfl⟩
  · exact ⟨_, rfl⟩
  · exact ⟨_, rfl⟩
  · exact ⟨_, rfl⟩
  · exact ⟨_, rfl⟩

theorem gForms : Tryd.prog.globalNamed "loop.example/wholeway/impl.forms" = some 0 := by kernel_rfl
theorem tForms : (Tryd.prog.globals[0]?).map (·.type) = some 66 := by kernel_rfl
theorem size1 : Tryd.prog.cellsOf 9 = 1 := by kernel_rfl
theorem size1i : Tryd.prog.cellsOf 3 = 1 := by kernel_rfl
theorem size2 : Tryd.prog.cellsOf 65 = 2 := by kernel_rfl
theorem size46 : Tryd.prog.cellsOf 66 = 46 := by kernel_rfl

theorem take1_drop {α : Type} {cs : List α} {k n : Nat} {x : α} (hn : n = 1) (h : (cs.drop k).take n = [x]) : cs[k]? = some x := by
  subst hn
  have := congrArg (fun l => l[0]?) h
  simpa [List.getElem?_take, List.getElem?_drop] using this

/-- Any reading of the variable that ends in the listed datum. -/
theorem forms_cells {enc : TypeId × Value → Unit} {W : World} {sp : Nat → Bool} {hd : Bool} {fuel : Nat} {cs : List Value} {p : List MemPlace}
    (h : DataW.trod enc Tryd.prog W 0 sp hd fuel 66 cs = some (Rows.laid_loop_example_wholeway_impl_forms, p)) :
    ∀ i : Nat, i < 23 → ∃ s, cs[i * 2]? = some (.string s) ∧ cs[i * 2 + 1]? = some (.int .i64 (fmL.getD i 0)) := by
  obtain ⟨xs, m, rfl, hx, hlen, hn, hel⟩ := DataW.trod_array Tryd.underlying66 h
  intro i hi
  have h1 := hel i hi
  rw [size2] at h1
  have hxi : xs[i]? = some (xs[i]'(by omega)) := List.getElem?_eq_getElem (by omega)
  rw [hxi] at h1
  obtain ⟨y0, y1, n, hy, hl, hs, hn2⟩ := trod_struct2 Tryd.underlying65 h1
  obtain ⟨s, e0, e1, _⟩ := DataW.trod_string Tryd.underlying9 hs
  obtain ⟨r, f0, f1, _⟩ := DataW.trod_int Tryd.underlying3 hn2
  have hd : xs.map (·.1) = formsD Unit := by
    have := congrArg Prod.fst hx
    rw [formsD_agg] at this
    exact (DataW.agg.inj this).symm
  obtain ⟨bs, hbs⟩ := formsD_at Unit i hi
  have hdi : (xs.map (·.1))[i]? = some (xs[i]'(by omega)).1 := by rw [List.getElem?_map, hxi]; rfl
  rw [hd, hbs, hy] at hdi
  have hr : r = fmL.getD i 0 := by
    have h3 := Option.some.inj hdi
    rw [e1, f1] at h3
    simp only [DataW.agg.injEq, List.cons.injEq, DataW.lit.injEq, Lit.int.injEq] at h3
    exact h3.2.1.2.symm
  subst hr
  refine ⟨s, ?_, ?_⟩
  · have := take1_drop size1 (k := 0) (show ((((cs.drop (i * 2)).take 2).drop 0).take (Tryd.prog.cellsOf 9)) = _ from e0)
    rw [List.getElem?_take, if_pos (by omega), List.getElem?_drop] at this
    simpa using this
  · have := take1_drop size1i (k := 1) (show ((((cs.drop (i * 2)).take 2).drop 1).take (Tryd.prog.cellsOf 3)) = _ from f0)
    rw [List.getElem?_take, if_pos (by omega), List.getElem?_drop] at this
    exact this

theorem forms_of_laid {W : World} (h : laidMetH Tryd.prog [("loop.example/wholeway/impl.forms", Rows.laid_loop_example_wholeway_impl_forms)] W) : FormsAt W := by
  rw [MakeChecks.laidMetH_plain _ _ _ (by kernel_rfl)] at h
  obtain ⟨ps, ⟨g0, t0, cs0, f0, p0, q0, hg0, ht0, hv0, hd0, _⟩, _, _⟩ := h
  obtain rfl := Option.some.inj (gForms.symm.trans hg0)
  obtain rfl := Option.some.inj (tForms.symm.trans ht0)
  intro i hi
  obtain ⟨s, h1, h2⟩ := forms_cells hd0 i hi
  refine ⟨s, ?_, ?_⟩
  · rw [World.var?_cell hg0 hv0, ← Array.getElem?_toList]; exact h1
  · rw [World.var?_cell hg0 hv0, ← Array.getElem?_toList]; exact h2


set_option maxRecDepth 100000 in
theorem door_met (os : Os) (args : Array Value) : laidMetH Tryd.prog [("loop.example/wholeway/impl.forms", Rows.laid_loop_example_wholeway_impl_forms)] ((World.doorLaid Tryd.prog 99 os).forCall (fun _ _ => 0) ⟨#[], args, []⟩).memory :=
  laidMetH_of_parts3 (fuel := 8) (laidMet_of_run' 8 (by kernel_rfl) (by kernel_rfl)) (by kernel_rfl) (by kernel_rfl)

end Go.Proofs.YtdkafajmhgfkoaaDoor
