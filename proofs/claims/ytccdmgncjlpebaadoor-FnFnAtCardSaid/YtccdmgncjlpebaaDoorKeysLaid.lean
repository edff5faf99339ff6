/-
  (no filter) What the row's condition on the tables gives the walks: the table of the ops between two.
-/
import Derived.Test.YtccdmgncjlpebaaDoorEx
import Derived.Test.YtccdmgncjlpebaaDoorRows
import Derived.ProofKit
import Derived.LaidMore
import Derived.OpenShut
import Derived.Stop.Joined
import Derived.Maps.Keyed
import Derived.Test.YtccdmgncjlpebaaDoorNm

namespace Go.Proofs.YtccdmgncjlpebaaDoor
open Go.ChangeShapes Go.WideShapes Go.ChangeAt Go.RowKit Go.WideElems Go.Maps

def laid2 : List (String × DataW Unit) := [("loop.example/wholeway/impl.keys", Rows.laid_loop_example_wholeway_impl_keys), ("loop.example/wholeway/impl.opSign", Rows.laid_loop_example_wholeway_impl_opSign)]
theorem gKeys : Tryd.prog.globalNamed "loop.example/wholeway/impl.keys" = some 0 := by kernel_rfl
theorem gOps : Tryd.prog.globalNamed "loop.example/wholeway/impl.opSign" = some 1 := by kernel_rfl
theorem tKeys : (Tryd.prog.globals[0]?).map (·.type) = some 64 := by kernel_rfl
theorem tOps : (Tryd.prog.globals[1]?).map (·.type) = some 93 := by kernel_rfl
theorem size1E : Tryd.prog.cellsOf 9 = 1 := by kernel_rfl
theorem size1iE : Tryd.prog.cellsOf 3 = 1 := by kernel_rfl
theorem size2E : Tryd.prog.cellsOf 92 = 2 := by kernel_rfl
theorem zeroOp (w : World) : (zeroValue 92).run Tryd.prog w = .ok (.agg #[.string ⟨#[]⟩, .int .i64 0]) w := by kernel_rfl

theorem take1_dropE {α : Type} {cs : List α} {k n : Nat} {x : α} (hn : n = 1) (h : (cs.drop k).take n = [x]) : cs[k]? = some x := by
  subst hn
  have := congrArg (fun l => l[0]?) h
  simpa [List.getElem?_take, List.getElem?_drop] using this

/-- An element of the table, opened. -/
theorem opAt {enc : TypeId × Value → Unit} {W : World} {sp : Nat → Bool} {hd : Bool} {n : Nat} {v : Value} {y : DataW Unit × List MemPlace}
    (h : elemAt enc Tryd.prog W 0 sp hd n 92 v = some y) : ∃ s r, v = .agg #[.string s, .int .i64 r] ∧ y.1 = .agg [.lit (.string s.data.toList), .lit (.int .i64 r)] := by
  unfold elemAt at h
  split at h
  · rename_i hf
    obtain ⟨y0, y1, m, hy, hl, hs, hn2⟩ := trod_struct2 Tryd.underlying92 h
    obtain ⟨s, e0, e1, _⟩ := DataW.trod_string Tryd.underlying9 hs
    obtain ⟨r, f0, f1, _⟩ := DataW.trod_int Tryd.underlying3 hn2
    rw [size2E] at hl
    have c0 := take1_dropE size1E e0
    have c1 := take1_dropE size1iE f0
    refine ⟨s, r, ?_, by rw [hy, e1, f1]⟩
    clear hs hn2 h hf hy e0 f0 e1 f1
    cases v with
    | agg cs =>
      refine congrArg Value.agg (Array.toList_inj.1 (List.ext_getElem? fun i => ?_))
      match i with
      | 0 => exact c0
      | 1 => exact c1
      | i + 2 => rw [List.getElem?_eq_none (by show cs.toList.length ≤ i + 2; have h2 : cs.toList.length = 2 := hl; omega)]; rfl
    | _ => simp [Value.cells] at hl
  · cases h

theorem lvl_at (op : Int) : (∃ s, (Rows.laid_loop_example_wholeway_impl_opSign (H := Unit)).atKey (.int .i64 op) .nil = .agg [.lit (.string s), .lit (.int .i64 (lvl op))]) ∨ ((Rows.laid_loop_example_wholeway_impl_opSign (H := Unit)).atKey (.int .i64 op) .nil = .nil ∧ lvl op = 0) := by
  by_cases h : 3 ≤ op ∧ op ≤ 10
  · have hc : op = 3 ∨ op = 4 ∨ op = 5 ∨ op = 6 ∨ op = 7 ∨ op = 8 ∨ op = 9 ∨ op = 10 := by omega
    rcases hc with rfl | rfl | rfl | rfl | rfl | rfl | rfl | rfl <;> exact .inl ⟨_, rfl⟩
  · have e3 : ¬ 3 = op := by omega
    have e4 : ¬ 4 = op := by omega
    have e5 : ¬ 5 = op := by omega
    have e6 : ¬ 6 = op := by omega
    have e7 : ¬ 7 = op := by omega
    have e8 : ¬ 8 = op := by omega
    have e9 : ¬ 9 = op := by omega
    have e10 : ¬ 10 = op := by omega
    refine .inr ⟨?_, ?_⟩
    · simp [Rows.laid_loop_example_wholeway_impl_opSign, DataW.atKey, Lit.sameKey, e3, e4, e5, e6, e7, e8, e9, e10]
    · unfold lvl
      rw [if_neg (by omega), if_neg (by omega), if_neg (by omega), if_neg (by omega)]

theorem ops_of_laid {W : World} (h : laidMetH Tryd.prog laid2 W) : OpsAt W := by
  rw [MakeChecks.laidMetH_plain _ _ _ (by kernel_rfl)] at h
  obtain ⟨ps, ⟨g0, t0, cs0, f0, p0, q0, hg0, ht0, hv0, hd0, ⟨g1, t1, cs1, f1, p1, q1, hg1, ht1, hv1, hd1, _, _⟩, _⟩, _, _⟩ := h
  obtain rfl := Option.some.inj (gOps.symm.trans hg1)
  obtain rfl := Option.some.inj (tOps.symm.trans ht1)
  rcases WideElems.open_map Tryd.underlying93 hd1 with ⟨_, hx⟩ | ⟨bm, es, clock, m, rfl, hcs, hb, _, F, hx⟩
  · simp [Rows.laid_loop_example_wholeway_impl_opSign] at hx
  simp only [Prod.mk.injEq] at hx
  have hcell : W.cell? ⟨1, 0, none⟩ = some (.map (some bm)) := by
    have := World.var?_cell hg1 hv1 0
    rw [Array.eq_one_of_toList hcs] at this
    simpa using this
  refine ⟨bm, _, hcell, hb, fun W' hb' op hop => ?_⟩
  have hw : (Lit.int .i64 op).wf = true := by
    show (decide ((-9223372036854775808 : Int) ≤ op) && decide (op ≤ 9223372036854775807)) = true
    rw [decide_eq_true hop.1, decide_eq_true hop.2]; rfl
  rcases fit_look (w := W') false (int_keyed Tryd.underlying3) Tryd.underlying93 (zeroOp W') hb' F (keyOf_int_mk Tryd.underlying3 hw) with ⟨hrun, _, hat⟩ | ⟨e0, y, _, _, hrun, hRv, hat, _⟩
  · have := hat .nil
    rw [← hx.1] at this
    rcases lvl_at op with ⟨s, hs⟩ | ⟨_, h0⟩
    · rw [hs] at this; cases this
    · rw [h0]; exact ⟨_, hrun⟩
  · have := hat .nil
    rw [← hx.1] at this
    obtain ⟨s, r, hv, hy⟩ := opAt hRv
    rw [hy] at this
    rcases lvl_at op with ⟨s', hs⟩ | ⟨hn, h0⟩
    · rw [hs] at this
      simp only [DataW.agg.injEq, List.cons.injEq, DataW.lit.injEq, Lit.int.injEq] at this
      rw [this.2.1.2]
      exact ⟨s, by rw [← hv]; exact hrun⟩
    · rw [hn] at this; cases this

set_option maxRecDepth 100000 in
theorem door_met2 (os : Os) (args : Array Value) : laidMetH Tryd.prog laid2 ((World.doorLaid Tryd.prog 400 os).forCall (fun _ _ => 0) ⟨#[], args, []⟩).memory :=
  laidMetH_of_parts3 (fuel := 8) (laidMet_of_run' 8 (by kernel_rfl) (by kernel_rfl)) (by kernel_rfl) (by kernel_rfl)

end Go.Proofs.YtccdmgncjlpebaaDoor

/-
  (no filter) What the row's condition on the tables gives the walks: the key words.
-/
namespace Go.Proofs.YtccdmgncjlpebaaDoor
open Go.ChangeShapes Go.WideShapes Go.ChangeAt Go.RowKit

def keysDat : List (DataW Unit) := match (Rows.laid_loop_example_wholeway_impl_keys (H := Unit)) with
  | .agg xs => xs
  | _ => []
theorem keysDat_agg : (Rows.laid_loop_example_wholeway_impl_keys (H := Unit)) = .agg keysDat := rfl
theorem keysDat_at (i : Nat) (h : i < 9) : ∃ s, keysE[i]? = some s ∧ keysDat[i]? = some (.lit (.string s.data.toList)) := by
  have hc : i = 0 ∨ i = 1 ∨ i = 2 ∨ i = 3 ∨ i = 4 ∨ i = 5 ∨ i = 6 ∨ i = 7 ∨ i = 8 := by omega
  rcases hc with rfl | rfl | rfl | rfl | rfl | rfl | rfl | rfl | rfl
  · exact ⟨_, rfl, rfl⟩
  · exact ⟨_, rfl, rfl⟩
  · exact ⟨_, rfl, rfl⟩
  · exact ⟨_, rfl, rfl⟩
  · exact ⟨_, rfl, rfl⟩
  · exact ⟨_, rfl, rfl⟩
  · exact ⟨_, rfl, rfl⟩
  · exact ⟨_, rfl, rfl⟩
  · exact ⟨_, rfl, rfl⟩
theorem str_of_data {s t : ByteArray} (h : s.data.toList = t.data.toList) : s = t := by
  cases s with
  | mk a => cases t with
    | mk b =>
      have : a = b := Array.toList_inj.1 h
      rw [this]
theorem keys_cells {enc : TypeId × Value → Unit} {W : World} {sp : Nat → Bool} {hd : Bool} {fuel : Nat} {cs : List Value} {p : List MemPlace}
    (h : DataW.trod enc Tryd.prog W 0 sp hd fuel 64 cs = some (Rows.laid_loop_example_wholeway_impl_keys, p)) :
    ∀ (i : Nat) s, keysE[i]? = some s → cs[i]? = some (.string s) := by
  obtain ⟨xs, m, rfl, hx, hlen, hn, hel⟩ := DataW.trod_array Tryd.underlying64 h
  intro i s hs
  have hi : i < 9 := (List.getElem?_eq_some_iff.1 hs).1
  have h1 := hel i hi
  rw [size1E] at h1
  have hxi : xs[i]? = some (xs[i]'(by omega)) := List.getElem?_eq_getElem (by omega)
  rw [hxi] at h1
  obtain ⟨s', e0, e1, _⟩ := DataW.trod_string Tryd.underlying9 h1
  have hd : xs.map (·.1) = keysDat := by
    have := congrArg Prod.fst hx
    rw [keysDat_agg] at this
    exact (DataW.agg.inj this).symm
  obtain ⟨s2, k1, k2⟩ := keysDat_at i hi
  rw [hs] at k1
  cases k1
  have hdi : (xs.map (·.1))[i]? = some (xs[i]'(by omega)).1 := by rw [List.getElem?_map, hxi]; rfl
  rw [hd, k2, e1] at hdi
  have h3 := Option.some.inj hdi
  simp only [DataW.lit.injEq, Lit.string.injEq] at h3
  have h4 := str_of_data h3
  subst h4
  rw [Nat.mul_one] at e0
  exact take1_dropE rfl e0
theorem keys_of_laid {W : World} (h : laidMetH Tryd.prog laid2 W) : KeysAt W := by
  rw [MakeChecks.laidMetH_plain _ _ _ (by kernel_rfl)] at h
  obtain ⟨ps, ⟨g0, t0, cs0, f0, p0, q0, hg0, ht0, hv0, hd0, _⟩, _, _⟩ := h
  obtain rfl := Option.some.inj (gKeys.symm.trans hg0)
  obtain rfl := Option.some.inj (tKeys.symm.trans ht0)
  intro i s hs
  rw [Nat.zero_add, World.var?_cell hg0 hv0, ← Array.getElem?_toList]
  exact keys_cells hd0 i s hs

end Go.Proofs.YtccdmgncjlpebaaDoor
