
/-
  What the row's condition on the tables gives the walk of FnExactReadMins: the words of the forms and their bits.
-/
import Derived.Test.YtdkafajmhgfkoaaDoorFormsLaid
import Derived.Test.YtdkafajmhgfkoaaDoorRmImpl
import Derived.Lay
namespace Go.Proofs.YtdkafajmhgfkoaaDoor
open Go.ChangeShapes Go.WideShapes Go.ChangeAt Go.RowKit

def laid8 : List (String × DataW Unit) := [("math/bits.deBruijn32tab", Rows.laid_math_bits_deBruijn32tab), ("math/bits.deBruijn64tab", Rows.laid_math_bits_deBruijn64tab), ("internal/strconv.uint64pow10", Rows.laid_internal_strconv_uint64pow10), ("unicode/utf8.acceptRanges", Rows.laid_unicode_utf8_acceptRanges), ("strconv.ErrRange", Rows.laid_strconv_ErrRange), ("strconv.ErrSyntax", Rows.laid_strconv_ErrSyntax), ("loop.example/wholeway/impl.forms", Rows.laid_loop_example_wholeway_impl_forms), ("unicode/utf8.first", Rows.laid_unicode_utf8_first)]

theorem formsD_all : (formsD Unit).map (fun d => match d with | .agg [.lit (.string b), .lit (.int .i64 n)] => (b, n) | _ => ([], -1)) = (List.range 23).map (fun i => ((nameL.getD i ⟨#[]⟩).data.toList, fmL.getD i 0)) := by kernel_rfl
theorem formsD_name (i : Nat) (h : i < 23) : (formsD Unit)[i]? = some (.agg [.lit (.string (nameL.getD i ⟨#[]⟩).data.toList), .lit (.int .i64 (fmL.getD i 0))]) := by
  obtain ⟨bs, hb⟩ := formsD_at Unit i h
  have h1 := congrArg (fun l => l[i]?) formsD_all
  simp only [List.getElem?_map, hb, Option.map_some, List.getElem?_range h] at h1
  rw [hb]
  simp only [Option.some.injEq, Prod.mk.injEq, and_true] at h1
  rw [h1]

/-- Any reading of the variable that ends in the listed datum. -/
theorem formsNm_cells {enc : TypeId × Value → Unit} {W : World} {sp : Nat → Bool} {hd : Bool} {fuel : Nat} {cs : List Value} {p : List MemPlace}
    (h : DataW.trod enc Tryd.prog W 0 sp hd fuel 66 cs = some (Rows.laid_loop_example_wholeway_impl_forms, p)) :
    ∀ i : Nat, i < 23 → cs[i * 2]? = some (.string (nameL.getD i ⟨#[]⟩)) ∧ cs[i * 2 + 1]? = some (.int .i64 (fmL.getD i 0)) := by
  obtain ⟨xs, m, rfl, hx, hlen, hn, hel⟩ := DataW.trod_array Tryd.underlying66 h
  intro i hi
  have h1 := hel i hi
  rw [size2] at h1
  have hxi : xs[i]? = some (xs[i]'(by omega)) := List.getElem?_eq_getElem (by omega)
  rw [hxi] at h1
  obtain ⟨y0, y1, n, hy, hl, hs, hn2⟩ := trod_struct2 Tryd.underlying65 h1
  obtain ⟨s, e0, e1, _⟩ := DataW.trod_string Tryd.underlying9 hs
  obtain ⟨r, f0, f1, _⟩ := DataW.trod_int Tryd.underlying3 hn2
  have hd : xs.map (·.1) = formsD Unit := by
    have := congrArg Prod.fst hx
    rw [formsD_agg] at this
    exact (DataW.agg.inj this).symm
  have hdi : (xs.map (·.1))[i]? = some (xs[i]'(by omega)).1 := by rw [List.getElem?_map, hxi]; rfl
  rw [hd, formsD_name i hi, hy] at hdi
  have h3 := Option.some.inj hdi
  rw [e1, f1] at h3
  simp only [DataW.agg.injEq, List.cons.injEq, DataW.lit.injEq, Lit.int.injEq, Lit.string.injEq] at h3
  have hr : r = fmL.getD i 0 := h3.2.1.2.symm
  have hs2 : s = nameL.getD i ⟨#[]⟩ := by
    have h4 : (nameL.getD i ⟨#[]⟩).data.toList = s.data.toList := h3.1
    have h5 : (nameL.getD i ⟨#[]⟩).data = s.data := Array.toList_inj.1 h4
    generalize nameL.getD i ⟨#[]⟩ = t at h5
    cases s; cases t
    cases h5
    rfl
  subst hr
  subst hs2
  refine ⟨?_, ?_⟩
  · have := take1_drop size1 (k := 0) (show ((((cs.drop (i * 2)).take 2).drop 0).take (Tryd.prog.cellsOf 9)) = _ from e0)
    rw [List.getElem?_take, if_pos (by omega), List.getElem?_drop] at this
    simpa using this
  · have := take1_drop size1i (k := 1) (show ((((cs.drop (i * 2)).take 2).drop 1).take (Tryd.prog.cellsOf 3)) = _ from f0)
    rw [List.getElem?_take, if_pos (by omega), List.getElem?_drop] at this
    exact this
theorem laid_tail {P : Program} {w : World} {x : String × DataW Unit} {xs : List (String × DataW Unit)} {ps : List MemPlace} (h : DataW.LaidVars P w (x :: xs) ps) : ∃ qs, DataW.LaidVars P w xs qs := by
  obtain ⟨n, d⟩ := x
  obtain ⟨_, _, _, _, _, q, _, _, _, _, h5, _⟩ := h
  exact ⟨q, h5⟩
theorem formsNm_of_laid {W : World} (h : laidMetH Tryd.prog laid8 W) : FormsNm W := by
  rw [MakeChecks.laidMetH_plain _ _ _ (by kernel_rfl)] at h
  obtain ⟨ps, h, _, _⟩ := h
  obtain ⟨_, h⟩ := laid_tail h
  obtain ⟨_, h⟩ := laid_tail h
  obtain ⟨_, h⟩ := laid_tail h
  obtain ⟨_, h⟩ := laid_tail h
  obtain ⟨_, h⟩ := laid_tail h
  obtain ⟨_, h⟩ := laid_tail h
  obtain ⟨g0, t0, cs0, f0, p0, q0, hg0, ht0, hv0, hd0, _⟩ := h
  obtain rfl := Option.some.inj (gForms.symm.trans hg0)
  obtain rfl := Option.some.inj (tForms.symm.trans ht0)
  intro i hi
  obtain ⟨h1, h2⟩ := formsNm_cells hd0 i hi
  refine ⟨?_, ?_⟩
  · rw [World.var?_cell hg0 hv0, ← Array.getElem?_toList]; exact h1
  · rw [World.var?_cell hg0 hv0, ← Array.getElem?_toList]; exact h2

set_option maxRecDepth 100000 in
theorem all_met (os : Os) (args : Array Value) : laidMetH Tryd.prog laid8 ((World.laidAll Tryd.prog os laid8).forCall (fun _ _ => 0) ⟨#[], args, []⟩).memory := by
  rw [MakeChecks.laidMetH_plain _ _ _ (by kernel_rfl)]
  exact laidMet_laidAll _ (by kernel_rfl) (by kernel_rfl)

end Go.Proofs.YtdkafajmhgfkoaaDoor
