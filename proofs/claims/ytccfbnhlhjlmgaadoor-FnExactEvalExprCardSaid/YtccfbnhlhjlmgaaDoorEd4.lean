
/-
  What the laws' rows hand over of an expression, of a list of texts.
-/
import Derived.Test.YtccfbnhlhjlmgaaDoorEd1
import Derived.Test.YtccfbnhlhjlmgaaDoorEd3
import Derived.Test.YtccfbnhlhjlmgaaDoorTrod
import Derived.SliceStrings
namespace Go.Proofs.YtccfbnhlhjlmgaaDoor
open Go.RowKit Go.Deep Go.ChangeShapes Go.WideShapes

section
variable {H : Type} {enc : TypeId × Value → H} {P : Program} {W : World} {base : Nat} {held : Bool}
theorem rows_of_trodB {α : Type} {s n : Nat} {R : World → List Value → α → Prop} {t e : TypeId} {cs : List Value} {y : DataW H × List MemPlace} (ht : P.underlying t = some (.slice e)) (hs : P.cellsOf e = s) (h0 : 0 < s)
    (hel : ∀ cs y, DataW.trod enc P W base (fun _ => true) held n e cs = some y → ∃ d, R W cs d) (h : DataW.trod enc P W base (fun _ => true) held (n + 1) t cs = some y) :
    ∃ a cap xs, cs = [.slice a (List.length xs) cap] ∧ (List.length xs ≤ maxLen ∧ (a = none → cap = 0)) ∧ SliceRd s R W a (List.length xs) xs := by
  rcases DataW.trod_slice ht h with ⟨rfl, _⟩ | ⟨a, len, cap, elems, rest, n', hn, rfl, rfl, _, hl, hm, hlen, hel2, _, _⟩
  · exact ⟨none, 0, [], rfl, ⟨Nat.zero_le _, fun _ => rfl⟩, rfl, [], .inl rfl, rfl, by simp, by simp⟩
  · obtain rfl : n' = n := by omega
    rw [hs] at hel2
    have hget : ∀ i, i < len → ∃ q : List Value × α, q.1.length = s ∧ (∀ j v, q.1[j]? = some v → W.cell? ((a.add (i * s)).add j) = some v) ∧ R W q.1 q.2 := by
      intro i hi
      have h0 := hel2 i hi
      rw [List.getElem?_eq_getElem (show i < elems.length by omega)] at h0
      obtain ⟨cs', h1, h2⟩ := Option.bind_eq_some_iff.1 h0
      obtain ⟨d, hd⟩ := hel _ _ h2
      obtain ⟨_, h3, h4⟩ := World.cells?_some h1
      refine ⟨(cs', d), h3, fun j v hv => ?_, hd⟩
      have hv2 : cs'[j]? = some v := hv
      rw [h4 j (by have := (List.getElem?_eq_some_iff.1 hv2).1; omega)]
      exact hv2
    by_cases hl0 : len = 0
    · subst hl0
      exact ⟨some a, cap, [], rfl, ⟨Nat.zero_le _, by rintro ⟨⟩⟩, rfl, [], .inl rfl, rfl, by simp, by simp⟩
    obtain ⟨q0, _⟩ := hget 0 (by omega)
    haveI : Inhabited (List Value × α) := ⟨q0⟩
    obtain ⟨q, hq⟩ := choose_lt hget
    have hlen : ((List.range len).map (fun i => (q i).2)).length = len := by simp
    have hcl : ∀ c ∈ (List.range len).map (fun i => (q i).1), c.length = s := by
      intro c hc
      obtain ⟨i, hi, rfl⟩ := List.mem_map.1 hc
      exact (hq i (by simpa using hi)).1
    obtain ⟨b, off, spot⟩ := a
    have hspot : spot = none := by
      have h2 := (hq 0 (by omega)).1
      have h1 := (hq 0 (by omega)).2.1 0 ((q 0).1[0]'(by omega)) (List.getElem?_eq_getElem _)
      rw [Nat.zero_mul] at h1
      simpa [Addr.add] using World.cell?_spot h1
    subst hspot
    refine ⟨some ⟨b, off, none⟩, cap, (List.range len).map (fun i => (q i).2), by rw [hlen], ⟨by rw [hlen]; omega, by rintro ⟨⟩⟩, ?_⟩
    rw [hlen]
    refine ⟨hlen, (List.range len).map (fun i => (q i).1), .inr ⟨b, off, rfl, fun k v hv => ?_⟩, by simp, hcl, fun i c x hc hx => ?_⟩
    · have hfl := flatten_len hcl
      have hk := (List.getElem?_eq_some_iff.1 hv).1
      rw [hfl, List.length_map, List.length_range] at hk
      have hi : k / s < len := by rw [Nat.div_lt_iff_lt_mul h0]; exact hk
      have hj : k % s < s := Nat.mod_lt _ h0
      have hg : ((List.range len).map (fun i => (q i).1)).flatten[k / s * s + k % s]? = (q (k / s)).1[k % s]? := flatten_get hcl (by simp [hi]) hj
      rw [Nat.div_add_mod'] at hg
      rw [hg] at hv
      have h5 := (hq (k / s) hi).2.1 _ _ hv
      rw [add_add, Nat.div_add_mod'] at h5
      have hadd : (⟨b, off, none⟩ : Addr).add k = ⟨b, off + k, none⟩ := by unfold Addr.add; split <;> simp_all
      rwa [hadd] at h5
    · rw [List.getElem?_map] at hc hx
      obtain ⟨i1, hi1, rfl⟩ := Option.map_eq_some_iff.1 hc
      obtain ⟨i2, hi2, rfl⟩ := Option.map_eq_some_iff.1 hx
      rw [hi1] at hi2
      cases hi2
      obtain ⟨hi3, hi4⟩ := List.getElem?_eq_some_iff.1 hi1
      simp at hi3 hi4
      subst hi4
      exact (hq i hi3).2.2
end

/-- A tree that lies in so many levels has no more. -/
theorem any_more (p : ExprD → Bool) : ∀ (d : Nat) (w : World) (cs : List Value) (x : ExprD), ExprAt d w cs x → anyE p (d + 1) x = anyE p d x
  | 0, _, _, _, h => h.elim
  | d + 1, w, cs, x, h => by
    obtain ⟨a, c, _, _, h3⟩ := h
    obtain ⟨h4, cells, _, h6, _, h8⟩ := h3
    have hk : ∀ k ∈ x.kids, anyE p (d + 1) k = anyE p d k := fun k hk => by
      obtain ⟨i, hi⟩ := List.getElem?_of_mem hk
      have hl := (List.getElem?_eq_some_iff.1 hi).1
      exact any_more p d w _ k (h8 i _ k (List.getElem?_eq_getElem (show i < cells.length by omega)) hi)
    show (p x || x.kids.any (anyE p (d + 1))) = (p x || x.kids.any (anyE p d))
    congr 1
    rw [Bool.eq_iff_iff, List.any_eq_true, List.any_eq_true]
    exact ⟨fun ⟨k, h1, h2⟩ => ⟨k, h1, by rw [← hk k h1]; exact h2⟩, fun ⟨k, h1, h2⟩ => ⟨k, h1, by rw [hk k h1]; exact h2⟩⟩
theorem four {α : Type} {xs : List α} (h : xs.length = 4) : ∃ a b c d, xs = [a, b, c, d] := by
  match xs, h with
  | [a, b, c, d], _ => exact ⟨a, b, c, d, rfl⟩
theorem cells_intE : Tryd.prog.cellsOf 3 = 1 := by kernel_rfl
theorem cells_strE : Tryd.prog.cellsOf 9 = 1 := by kernel_rfl
theorem cells_Expr : Tryd.prog.cellsOf 60 = 4 := by kernel_rfl
theorem cells_ExprS : Tryd.prog.cellsOf 58 = 1 := by kernel_rfl
set_option maxRecDepth 100000 in
theorem expr_of_trod {H : Type} {enc : TypeId × Value → H} {W : World} {base : Nat} {held : Bool} : ∀ (fuel : Nat) (cs : List Value) (y : DataW H × List MemPlace),
    DataW.trod enc Tryd.prog W base (fun _ => true) held fuel 60 cs = some y → ∃ x, ExprAt fuel W cs x ∧ anyE longP fuel x = false := by
  intro fuel
  induction fuel using Nat.strongRecOn with
  | ind fuel ih =>
  intro cs y h
  obtain ⟨xs, m, hm, _, hl, hlen, hf⟩ := DataW.trod_struct Tryd.underlying60 h
  subst hm
  rw [cells_Expr] at hl
  obtain ⟨c0, c1, c2, c3, rfl⟩ := four hl
  obtain ⟨y0, y1, y2, y3, rfl⟩ := four hlen
  have e0 : DataW.trod enc Tryd.prog W base (fun _ => true) held m 3 [c0] = some y0 := by
    have h0 : DataW.trod enc Tryd.prog W base (fun _ => true) held m 3 (([c0, c1, c2, c3].drop 0).take (Tryd.prog.cellsOf 3)) = [y0, y1, y2, y3][0]? := hf 0 _ rfl
    rw [cells_intE] at h0
    exact h0
  have e1 : DataW.trod enc Tryd.prog W base (fun _ => true) held m 3 [c1] = some y1 := by
    have h0 : DataW.trod enc Tryd.prog W base (fun _ => true) held m 3 (([c0, c1, c2, c3].drop 1).take (Tryd.prog.cellsOf 3)) = [y0, y1, y2, y3][1]? := hf 1 _ rfl
    rw [cells_intE] at h0
    exact h0
  have e2 : DataW.trod enc Tryd.prog W base (fun _ => true) held m 9 [c2] = some y2 := by
    have h0 : DataW.trod enc Tryd.prog W base (fun _ => true) held m 9 (([c0, c1, c2, c3].drop 2).take (Tryd.prog.cellsOf 9)) = [y0, y1, y2, y3][2]? := hf 2 _ rfl
    rw [cells_strE] at h0
    exact h0
  have e3 : DataW.trod enc Tryd.prog W base (fun _ => true) held m 58 [c3] = some y3 := by
    have h0 : DataW.trod enc Tryd.prog W base (fun _ => true) held m 58 (([c0, c1, c2, c3].drop 3).take (Tryd.prog.cellsOf 58)) = [y0, y1, y2, y3][3]? := hf 3 _ rfl
    rw [cells_ExprS] at h0
    exact h0
  obtain ⟨op, e0, _, hop⟩ := DataW.trod_int Tryd.underlying3 e0
  simp at e0
  subst e0
  obtain ⟨n, e1, _⟩ := DataW.trod_int Tryd.underlying3 e1
  simp at e1
  subst e1
  obtain ⟨s, e2, _, hss⟩ := DataW.trod_string Tryd.underlying9 e2
  simp at e2
  subst e2
  have hopr : -9223372036854775808 ≤ op ∧ op ≤ 9223372036854775807 := by
    have h1 : (decide ((-9223372036854775808 : Int) ≤ op) && decide (op ≤ 9223372036854775807)) = true := hop
    simpa using h1
  cases m with
  | zero => simp [DataW.trod] at e3
  | succ n' =>
    obtain ⟨ka, kc, kids, e3, km, kr⟩ := rows_of_trodB (R := fun W cs x => ExprAt n' W cs x ∧ anyE longP n' x = false) Tryd.underlying58 cells_Expr (by decide) (fun cs y h => ih n' (by omega) cs y h) e3
    simp only [List.cons.injEq, and_true] at e3
    subst e3
    have hkr : SliceRd 4 (ExprAt (n' + 1)) W ka kids.length kids := by
      obtain ⟨h4, cells, h5, h6, h7, h8⟩ := kr
      exact ⟨h4, cells, h5, h6, h7, fun i c x hc hx => exprAt_more n' _ _ _ (h8 i c x hc hx).1⟩
    have hka : ∀ k ∈ kids, anyE longP (n' + 1) k = false := fun k hk => by
      obtain ⟨h4, cells, h5, h6, h7, h8⟩ := kr
      obtain ⟨i, hi⟩ := List.getElem?_of_mem hk
      have hl := (List.getElem?_eq_some_iff.1 hi).1
      obtain ⟨a1, a2⟩ := h8 i _ k (List.getElem?_eq_getElem (show i < cells.length by omega)) hi
      rw [any_more longP n' W _ k a1]; exact a2
    refine ⟨.mk op n s kids, ⟨ka, kc, rfl, ⟨km.1, hopr⟩, hkr⟩, ?_⟩
    show (decide (maxLen < s.size) || kids.any (anyE longP (n' + 1))) = false
    rw [Bool.or_eq_false_iff]
    exact ⟨by simpa using hss, List.any_eq_false.2 fun k hk => by rw [hka k hk]; simp⟩

set_option maxRecDepth 100000 in
theorem expr_of_arg {H : Type} {enc : TypeId × Value → H} {W : World} {base b0 : Nat} {held : Bool} {r : Reach} {v : Value} {d : DataW H} {ps : List MemPlace} (hv : Value.okWide Tryd.prog W r b0 60 v)
    (h : DataW.Trod enc Tryd.prog W base (fun _ => true) held 60 v d ps) : ∃ cs x f, v = .agg (List.toArray cs) ∧ ExprAt f W cs x ∧ anyE longP f x = false := by
  obtain ⟨cs, rfl, _⟩ := okWide_struct Tryd.underlying60 hv
  obtain ⟨fuel, hf⟩ := h
  obtain ⟨x, hx, hl⟩ := expr_of_trod fuel _ _ hf
  exact ⟨cs.toList, x, fuel, by simp, hx, hl⟩

theorem strs_of_trod {H : Type} {enc : TypeId × Value → H} {W : World} {base : Nat} {held : Bool} {fuel : Nat} {cs : List Value} {y : DataW H × List MemPlace}
    (h : DataW.trod enc Tryd.prog W base (fun _ => true) held fuel 38 cs = some y) : ∃ a cap xs, cs = [.slice a (List.length xs) cap] ∧ List.length xs ≤ maxLen ∧ StrsE W a (List.length xs) xs ∧ ∀ s ∈ xs, s.size ≤ maxLen := by
  rcases open_strings Tryd.underlying38 Tryd.underlying9 cells_strE h with ⟨rfl, _⟩ | ⟨a, len, cap, ss, rfl, _, hl, hm, hlen, _, hc, hs⟩
  · exact ⟨none, 0, [], rfl, Nat.zero_le _, ⟨rfl, .inl rfl⟩, by simp⟩
  · simp only [if_true] at hlen
    have h2 : (ss.take len).length = len := by rw [List.length_take]; omega
    refine ⟨some a, cap, ss.take len, by rw [h2], by omega, ⟨rfl, ?_⟩, fun s h => hs s (List.mem_of_mem_take h)⟩
    by_cases hl0 : len = 0
    · subst hl0; exact .inl rfl
    have h0 := hc 0 (by omega)
    obtain ⟨b, off, spot⟩ := a
    have hspot : spot = none := by simpa [Addr.add] using World.cell?_spot h0
    subst hspot
    refine .inr ⟨b, off, rfl, fun i v hv => ?_⟩
    rw [List.getElem?_map] at hv
    obtain ⟨s, hs1, rfl⟩ := Option.map_eq_some_iff.1 hv
    rw [List.getElem?_take] at hs1
    split at hs1
    · rename_i hi
      have h3 := hc i (by omega)
      rw [List.getD_eq_getElem?_getD, hs1] at h3
      have hadd : (⟨b, off, none⟩ : Addr).add i = ⟨b, off + i, none⟩ := by unfold Addr.add; split <;> simp_all
      rwa [hadd] at h3
    · cases hs1

end Go.Proofs.YtccfbnhlhjlmgaaDoor
