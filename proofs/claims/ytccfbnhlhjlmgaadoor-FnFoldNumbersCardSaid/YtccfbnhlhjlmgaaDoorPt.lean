
/-
  PutVar: a number is put for a variable.
-/
import Derived.Test.YtccfbnhlhjlmgaaDoorEm
import Derived.Test.YtccfbnhlhjlmgaaDoorPe2
import Derived.Test.YtccfbnhlhjlmgaaDoorEs3
namespace Go.Proofs.YtccfbnhlhjlmgaaDoor
open Go.RowKit
set_option linter.unusedVariables false

theorem results_cell2 {P : Program} {fn : Func} {p u : Tmp} {ty : TypeId} (h : fn.results = #[.cell p ty, .tmp u]) (tmps : Array Value) (w : World) (g : Nat) (t : TypeId) (cs : Array Value) (fr : Nat × Nat) (d : TypeDesc)
    (hp : tmps.getD p undef = .pointer (some ⟨g, 0, none⟩)) (hg : w.heap[g]? = some (.cells cs t fr))
    (hu : P.underlying ty = some d) (hd : (match d with | .struct _ | .array _ _ => true | _ => false) = true) (hi : (P.info? ty).map (·.size) = some cs.size) :
    (results fn tmps).run P w = .ok (.tuple #[.agg cs, tmps.getD u undef]) w := by
  rw [results_cell_tmp h, hp]
  simp [asAddr, run_loadVar_row w g t ty cs fr d hg hu hd hi]
theorem setCells4' (w : World) (g : Nat) (v0 v1 v2 v3 : Value) : w.setCells g 0 [v0, v1, v2, v3] = (((w.setCell ⟨g, 0, none⟩ v0).setCell ⟨g, 1, none⟩ v1).setCell ⟨g, 2, none⟩ v2).setCell ⟨g, 3, none⟩ v3 := rfl
theorem blocks2 (w : World) (P Q : Obj) : ((w.alloc P).alloc Q).heap[w.heap.size]? = some P ∧ ((w.alloc P).alloc Q).heap[w.heap.size + 1]? = some Q ∧ Below w.heap.size w ((w.alloc P).alloc Q) ∧ ((w.alloc P).alloc Q).heap.size = w.heap.size + 2 :=
  ⟨heap_alloc2_old w P Q, heap_alloc2_new w P Q, ((Below.refl _ _).alloc (Nat.le_refl _) _).alloc (by simp) _, by simp⟩
/-- An expression that is turned in its own block, then laid in the result's: what stands at the end. -/
structure TwoE (w : World) (op n : Int) (s : ByteArray) (v : Value) (wr : World) : Prop where
  p : wr.heap[w.heap.size]? = some (.cells #[.int .i64 op, .int .i64 n, .string s, v] 29 (0, 0))
  r : wr.heap[w.heap.size + 1]? = some (.cells #[.int .i64 0, .int .i64 0, .string ⟨#[]⟩, .slice none 0 0] 29 (0, 0))
  below : Below w.heap.size w wr
  size : w.heap.size + 2 ≤ wr.heap.size
section
variable {w wr w' : World} {op n : Int} {s : ByteArray} {v : Value}
theorem TwoE.start (w : World) (op n : Int) (s : ByteArray) (v : Value) : TwoE w op n s v ((w.alloc (.cells #[.int .i64 op, .int .i64 n, .string s, v] 29)).alloc (.cells #[.int .i64 0, .int .i64 0, .string ⟨#[]⟩, .slice none 0 0] 29)) :=
  ⟨heap_alloc2_old _ _ _, heap_alloc2_new _ _ _, ((Below.refl _ _).alloc (Nat.le_refl _) _).alloc (by simp) _, by simp⟩
theorem TwoE.later (h : TwoE w op n s v wr) (hb : Below wr.heap.size wr w') : TwoE w op n s v w' :=
  ⟨(hb.block _ (by have := h.size; omega)).trans h.p, (hb.block _ (by have := h.size; omega)).trans h.r, h.below.trans (hb.mono (by have := h.size; omega)), Nat.le_trans h.size hb.size⟩
theorem TwoE.setP (h : TwoE w op n s v wr) (v' : Value) : TwoE w op n s v' (wr.setCell ⟨w.heap.size, 3, none⟩ v') := by
  refine ⟨?_, (heap_setCell_other _ _ _ _ (by show w.heap.size + 1 ≠ w.heap.size; omega)).trans h.r, h.below.setCell (Nat.le_refl _) _, by rw [World.size_setCell]; exact h.size⟩
  rw [heap_setCell_same _ _ _ _ _ _ h.p]; rfl
theorem TwoE.put (h : TwoE w op n s v wr) {cs : List Value} (hl : cs.length = 4) : (wr.setCells (w.heap.size + 1) 0 cs).heap[w.heap.size + 1]? = some (.cells cs.toArray 29 (0, 0)) := by
  have := heap_setCells_mid (A := []) (B := [.int .i64 0, .int .i64 0, .string ⟨#[]⟩, .slice none 0 0]) (C := []) (vs := cs) (o := 0) rfl (by rw [hl]; rfl) h.r
  simpa using this
/-- What lies elsewhere stays. -/
theorem TwoE.done (h : TwoE w op n s v wr) {S : Nat → Prop} (hS : ∀ k, S k → k < w.heap.size ∨ w.heap.size + 2 ≤ k) {d : Nat} {cs : List Value} {x : ExprD} (hx : ExprP d S wr cs x) : ExprP d S (wr.setCells (w.heap.size + 1) 0 cs) cs x ∧ Below w.heap.size w (wr.setCells (w.heap.size + 1) 0 cs) := by
  have ht := turned_setCells (g := w.heap.size + 1) cs wr 0
  exact ⟨exprP_turned ht (fun k _ h1 h2 => by have := hS k h1; omega) hx, h.below.trans (ht.below (B := w.heap.size) (by have := h.size; omega) (fun k hk => by omega))⟩
theorem TwoE.z0 (h : TwoE w op n s v wr) : wr.cell? ⟨w.heap.size + 1, 0, none⟩ = some (.int .i64 0) := cell_of_row _ _ 0 _ _ _ h.r
theorem TwoE.z1 (h : TwoE w op n s v wr) : wr.cell? ⟨w.heap.size + 1, 1, none⟩ = some (.int .i64 0) := cell_of_row _ _ 1 _ _ _ h.r
theorem TwoE.z2 (h : TwoE w op n s v wr) : wr.cell? ⟨w.heap.size + 1, 2, none⟩ = some (.string ⟨#[]⟩) := cell_of_row _ _ 2 _ _ _ h.r
theorem TwoE.z3 (h : TwoE w op n s v wr) : wr.cell? ⟨w.heap.size + 1, 3, none⟩ = some (.slice none 0 0) := cell_of_row _ _ 3 _ _ _ h.r
theorem TwoE.zf (h : TwoE w op n s v wr) (i : Nat) : wr.frozen? ⟨w.heap.size + 1, i, none⟩ = false := frozen_of_row _ _ i _ _ h.r
theorem TwoE.p0 (h : TwoE w op n s v wr) : wr.cell? ⟨w.heap.size, 0, none⟩ = some (.int .i64 op) := cell_of_row _ _ 0 _ _ _ h.p
theorem TwoE.p1 (h : TwoE w op n s v wr) : wr.cell? ⟨w.heap.size, 1, none⟩ = some (.int .i64 n) := cell_of_row _ _ 1 _ _ _ h.p
theorem TwoE.p2 (h : TwoE w op n s v wr) : wr.cell? ⟨w.heap.size, 2, none⟩ = some (.string s) := cell_of_row _ _ 2 _ _ _ h.p
theorem TwoE.p3 (h : TwoE w op n s v wr) : wr.cell? ⟨w.heap.size, 3, none⟩ = some v := cell_of_row _ _ 3 _ _ _ h.p
theorem TwoE.pf (h : TwoE w op n s v wr) (i : Nat) : wr.frozen? ⟨w.heap.size, i, none⟩ = false := frozen_of_row _ _ i _ _ h.p
end
theorem mapFn_nil {w0 : World} {f : Nat} {caps : Array Value} {S : Nat → Prop} {d d' : Nat} {g : ExprD → ExprD} (h : ∀ v W, (callFunc f (#[v] ++ caps)).run Tryd.prog W = .ok (.enter f (#[v] ++ caps)) W) : MapFn w0 f caps S d d' g [] := ⟨h, by simp⟩

set_option maxRecDepth 100000 in
set_option maxHeartbeats 2000000 in
theorem cloneNum_any (v : Int) (w : World) : Calls Tryd.prog 100 #[.agg #[.int .i64 1, .int .i64 v, .string ⟨#[]⟩, .slice none 0 0]] w fun e w' => ∃ a c, e = .returned (.agg #[.int .i64 1, .int .i64 v, .string ⟨#[]⟩, .slice a 0 c]) ∧ Below w.heap.size w w' := by
  have HT := Lib.hid (TwoE.start w 1 v ⟨#[]⟩ (.slice none 0 0))
  go_enter Tryd.func100, Tryd.ntmps100
  go_upto_region 1 with fail
  generalize (w.alloc (.cells #[.int .i64 1, .int .i64 v, .string ⟨#[]⟩, .slice none 0 0] 29)).alloc (.cells #[.int .i64 0, .int .i64 0, .string ⟨#[]⟩, .slice none 0 0] 29) = W1 at HT ⊢
  have p3 := HT.out.p3
  have HM := Lib.hid (mapped_any 100 #[] (fun k => k < W1.heap.size) 1 1 id none 0 [] W1 ⟨⟨rfl, [], .inl rfl, rfl, by simp, by simp⟩, fun h => absurd rfl h⟩ (fun _ h => h) (by simp) (mapFn_nil (fun v W => by kernel_rfl)))
  go_wp2_with fail
  refine HM.out.mono ?_
  rintro e w2 ⟨a', c', rfl, -, hb2⟩
  have HT2 := Lib.hid (HT.out.later hb2)
  have q3 := HT2.out.p3
  have qf := HT2.out.pf 3
  clear hb2 p3 HM HT
  go_upto_region 2 with fail
  have HT3 := Lib.hid (HT2.out.setP (.slice a' 0 c'))
  clear q3 qf
  generalize w2.setCell ⟨w.heap.size, 3, none⟩ (.slice a' 0 c') = W3 at HT3 ⊢
  have p0 := HT3.out.p0
  have p1 := HT3.out.p1
  have p2 := HT3.out.p2
  have p3 := HT3.out.p3
  have z0 := HT3.out.z0
  have z1 := HT3.out.z1
  have z2 := HT3.out.z2
  have z3 := HT3.out.z3
  have f0 := HT3.out.zf 0
  have f1 := HT3.out.zf 1
  have f2 := HT3.out.zf 2
  have f3 := HT3.out.zf 3
  go_wp2
  refine bodyPost_ret (results_cell_row rfl _ _ (w.heap.size + 1) 29 #[.int .i64 1, .int .i64 v, .string ⟨#[]⟩, .slice a' 0 c'] (0, 0) _ rfl ?_ Tryd.underlying29 rfl (by kernel_rfl)) rfl ?_
  · exact HT3.out.put (cs := [.int .i64 1, .int .i64 v, .string ⟨#[]⟩, .slice a' 0 c']) rfl
  have hdone := (HT3.out.done (S := fun _ => False) (fun _ h => h.elim) (cs := [.int .i64 1, .int .i64 v, .string ⟨#[]⟩, .slice a' 0 c']) (x := numE v) (d := 1) ⟨a', c', rfl, ⟨by show (0 : Nat) ≤ maxLen; exact Nat.zero_le _, (by decide : (-9223372036854775808 : Int) ≤ 1), (by decide : (1 : Int) ≤ 9223372036854775807)⟩, ⟨rfl, [], .inl rfl, rfl, by simp, by simp⟩, fun h => absurd rfl h⟩).2
  rw [setCells4'] at hdone
  exact ⟨a', c', rfl, hdone⟩

theorem str_sameE {s t : ByteArray} (h : s = t) : (s.toList == t.toList) = true := by rw [h]; simp
theorem str_otherE {s t : ByteArray} (h : s ≠ t) : (s.toList == t.toList) = false := by
  cases h2 : (s.toList == t.toList) with
  | false => rfl
  | true => exact absurd (eq_of_toListE (by simpa using h2)) h
set_option maxRecDepth 100000 in
set_option maxHeartbeats 4000000 in
/-- The closure that puts a number. -/
theorem put_any (s : ByteArray) (v : Int) (bn bby bp : Nat) : ∀ (m : Nat) (S : Nat → Prop) (cs : List Value) (x : ExprD) (w : World), sizeD nameD m x ≠ none → ExprP m S w cs x → (∀ k, S k → k < w.heap.size) →
    w.cell? ⟨bn, 0, none⟩ = some (.string s) → w.heap[bby]? = some (.cells #[.int .i64 1, .int .i64 v, .string ⟨#[]⟩, .slice none 0 0] 29 (0, 0)) → w.cell? ⟨bp, 0, none⟩ = some (.func (.func 99) #[] #[.pointer (some ⟨bn, 0, none⟩), .pointer (some ⟨bby, 0, none⟩), .pointer (some ⟨bp, 0, none⟩)]) →
    Calls Tryd.prog 99 #[.agg cs.toArray, .pointer (some ⟨bn, 0, none⟩), .pointer (some ⟨bby, 0, none⟩), .pointer (some ⟨bp, 0, none⟩)] w fun e w' => ∃ cs', e = .returned (.agg (List.toArray cs')) ∧ ExprP m (fun k => S k ∨ w.heap.size ≤ k) w' cs' (putD s (numE v) m x) ∧ Below w.heap.size w w' := by
  intro m
  induction m with
  | zero => exact fun _ _ _ _ h => absurd rfl h
  | succ m ih =>
  intro S cs x w hs hx hS cn cby cp
  have hkv : ∀ k ∈ x.kids, sizeD nameD m k ≠ none := fun k hk => by
    obtain ⟨m', hm, _, h1⟩ := size_parts hs
    cases hm
    exact h1 k hk
  have hlen : x.kids.length ≤ 3 := by
    obtain ⟨m', hm, hh, _⟩ := size_parts hs
    exact head_kids hh
  obtain ⟨ka, kc, rfl, ⟨_, hop⟩, hks⟩ := hx
  obtain ⟨op, n, name, kids⟩ := x
  simp only [ExprD.op, ExprD.n, ExprD.name, ExprD.kids] at *
  have HT := Lib.hid (TwoE.start w op n name (.slice ka kids.length kc))
  have HK := Lib.hid (And.intro hkv (And.intro hks (And.intro hS (And.intro hop hlen))))
  have HC := Lib.hid (show ∀ (W : World), Below w.heap.size w W → W.cell? ⟨bn, 0, none⟩ = some (.string s) ∧ W.heap[bby]? = some (.cells #[.int .i64 1, .int .i64 v, .string ⟨#[]⟩, .slice none 0 0] 29 (0, 0)) ∧ W.cell? ⟨bp, 0, none⟩ = some (.func (.func 99) #[] #[.pointer (some ⟨bn, 0, none⟩), .pointer (some ⟨bby, 0, none⟩), .pointer (some ⟨bp, 0, none⟩)]) from fun W hb => ⟨cell_later hb cn, (hb.block _ (Array.getElem?_eq_some_iff.1 cby).1).trans cby, cell_later hb cp⟩)
  have HIH := Lib.hid ih
  clear hs hkv hks hS hop hlen cn cby cp ih
  show Calls _ _ #[.agg #[.int .i64 op, .int .i64 n, .string name, .slice ka kids.length kc], _, _, _] w _
  go_enter Tryd.func99, Tryd.ntmps99
  go_upto_region 1 with fail
  generalize (w.alloc (.cells #[.int .i64 op, .int .i64 n, .string name, .slice ka kids.length kc] 29)).alloc (.cells #[.int .i64 0, .int .i64 0, .string ⟨#[]⟩, .slice none 0 0] 29) = W1 at HT ⊢
  have p0 := HT.out.p0
  have p2 := HT.out.p2
  have p3 := HT.out.p3
  have d0 := (HC.out W1 HT.out.below).1
  have d2 := (HC.out W1 HT.out.below).2.2
  by_cases hp : op = 2 ∧ name = s
  · obtain ⟨h1, h2⟩ := hp
    have HR := Lib.hid (show putD s (numE v) (m + 1) (.mk op n name kids) = numE v by rw [putD]; exact if_pos ⟨h1, h2⟩)
    have hne := str_sameE h2
    clear h2
    subst h1
    have b0 := cell_of_row _ _ 0 _ _ _ (HC.out W1 HT.out.below).2.1
    have b1 := cell_of_row _ _ 1 _ _ _ (HC.out W1 HT.out.below).2.1
    have b2 := cell_of_row _ _ 2 _ _ _ (HC.out W1 HT.out.below).2.1
    have b3 := cell_of_row _ _ 3 _ _ _ (HC.out W1 HT.out.below).2.1
    simp only [List.getElem?_toArray, List.getElem?_cons_zero, List.getElem?_cons_succ] at b0 b1 b2 b3
    go_wp2_with fail
    refine (cloneNum_any v W1).mono ?_
    rintro e w2 ⟨ca, cc, rfl, hb2⟩
    have HT2 := Lib.hid (HT.out.later hb2)
    clear hb2 b0 b1 b2 b3 p0 p2 p3 d0 d2
    have z0 := HT2.out.z0
    have z1 := HT2.out.z1
    have z2 := HT2.out.z2
    have z3 := HT2.out.z3
    have f0 := HT2.out.zf 0
    have f1 := HT2.out.zf 1
    have f2 := HT2.out.zf 2
    have f3 := HT2.out.zf 3
    go_wp2
    refine bodyPost_ret (results_cell_row rfl _ _ (w.heap.size + 1) 29 #[.int .i64 1, .int .i64 v, .string ⟨#[]⟩, .slice ca 0 cc] (0, 0) _ rfl ?_ Tryd.underlying29 rfl (by kernel_rfl)) rfl ?_
    · exact HT2.out.put (cs := [.int .i64 1, .int .i64 v, .string ⟨#[]⟩, .slice ca 0 cc]) rfl
    have hdone := HT2.out.done (S := fun k => S k ∨ w.heap.size + 2 ≤ k) (fun k h => h.elim (fun h => .inl (HK.out.2.2.1 k h)) .inr) (cs := [.int .i64 1, .int .i64 v, .string ⟨#[]⟩, .slice ca 0 cc]) (x := numE v) (d := m + 1) ⟨ca, cc, rfl, ⟨by show (0 : Nat) ≤ maxLen; exact Nat.zero_le _, (by decide : (-9223372036854775808 : Int) ≤ 1), (by decide : (1 : Int) ≤ 9223372036854775807)⟩, ⟨rfl, [], .inl rfl, rfl, by simp, by simp⟩, fun h => absurd rfl h⟩
    rw [setCells4'] at hdone
    exact ⟨_, rfl, by rw [HR.out]; exact exprP_mono (fun k _ h => h.elim .inl (fun h => .inr (by omega))) hdone.1, hdone.2⟩
  · have HR := Lib.hid (show putD s (numE v) (m + 1) (.mk op n name kids) = .mk op n name (kids.map (putD s (numE v) m)) by rw [putD]; exact if_neg hp)
    have HM := Lib.hid (mapped_any 99 #[.pointer (some ⟨bn, 0, none⟩), .pointer (some ⟨bby, 0, none⟩), .pointer (some ⟨bp, 0, none⟩)] S m m (putD s (numE v) m) ka kc kids W1 (listP_turned (T := fun k => w.heap.size ≤ k) HK.out.2.1 (turned_of_below HT.out.below (fun k h1 _ => h1)) (fun k h1 _ h2 => by omega) (fun _ _ _ h => exprP_below HT.out.below h)) (fun k h => Nat.lt_of_lt_of_le (HK.out.2.2.1 k h) HT.out.below.size) (by have := HK.out.2.2.2.2; omega) ⟨fun v W => by kernel_rfl, fun y hy cs' W hW hyx => by
      have hbW := HT.out.below.trans (hW.mono HT.out.below.size)
      obtain ⟨j1, j2, j3⟩ := HC.out W hbW
      exact HIH.out S cs' y W (HK.out.1 y hy) hyx (fun k h => Nat.lt_of_lt_of_le (HK.out.2.2.1 k h) hbW.size) j1 j2 j3⟩)
    have hcond : ((op == 2) && (name.toList == s.toList)) = false := by
      by_cases h1 : op = 2
      · rw [str_otherE (fun h2 => hp ⟨h1, h2⟩)]; simp
      · simp [h1]
    clear hp
    by_cases h1 : op = 2
    · subst h1
      have hne : (name.toList == s.toList) = false := by simpa using hcond
      clear hcond
      go_wp2_with fail
      refine HM.out.mono ?_
      rintro e w2 ⟨a', c', rfl, hl2, hb2⟩
      have HT2 := Lib.hid (HT.out.later hb2)
      have HL := Lib.hid hl2
      have q3 := HT2.out.p3
      have qf := HT2.out.pf 3
      clear hb2 hl2 p0 p2 p3 d0 d2 HM
      go_upto_region 4 with fail
      have HT3 := Lib.hid (HT2.out.setP (.slice a' kids.length c'))
      have HL3 := Lib.hid (listP_turned (T := fun k => k = w.heap.size) HL.out (turned_store w2 w.heap.size 3 (.slice a' kids.length c')) (fun k h1 h2 h3 => by subst h3; rcases h2 with h2 | h2; exact absurd (HK.out.2.2.1 _ h2) (by omega); have := HT.out.size; omega) (fun _ _ _ h => exprP_turned (turned_store w2 w.heap.size 3 (.slice a' kids.length c')) (fun k h1 h2 h3 => by subst h3; rcases h2 with h2 | h2; exact absurd (HK.out.2.2.1 _ h2) (by omega); have := HT.out.size; omega) h))
      clear q3 qf
      generalize w2.setCell ⟨w.heap.size, 3, none⟩ (.slice a' kids.length c') = W3 at HT3 HL3 ⊢
      have p0 := HT3.out.p0
      have p1 := HT3.out.p1
      have p2 := HT3.out.p2
      have p3 := HT3.out.p3
      have z0 := HT3.out.z0
      have z1 := HT3.out.z1
      have z2 := HT3.out.z2
      have z3 := HT3.out.z3
      have f0 := HT3.out.zf 0
      have f1 := HT3.out.zf 1
      have f2 := HT3.out.zf 2
      have f3 := HT3.out.zf 3
      go_wp2
      refine bodyPost_ret (results_cell_row rfl _ _ (w.heap.size + 1) 29 #[.int .i64 2, .int .i64 n, .string name, .slice a' kids.length c'] (0, 0) _ rfl ?_ Tryd.underlying29 rfl (by kernel_rfl)) rfl ?_
      · exact HT3.out.put (cs := [.int .i64 2, .int .i64 n, .string name, .slice a' kids.length c']) rfl
      have hlm : (kids.map (putD s (numE v) m)).length = kids.length := List.length_map _
      have hdone := HT3.out.done (S := fun k => S k ∨ w.heap.size + 2 ≤ k) (fun k h => h.elim (fun h => .inl (HK.out.2.2.1 k h)) .inr) (cs := [.int .i64 2, .int .i64 n, .string name, .slice a' kids.length c']) (x := .mk 2 n name (kids.map (putD s (numE v) m))) (d := m + 1) ⟨a', c', by show _ = [_, _, _, Value.slice a' (kids.map (putD s (numE v) m)).length c']; rw [hlm]; rfl, ⟨by show (kids.map (putD s (numE v) m)).length ≤ maxLen; rw [hlm]; exact Nat.le_trans HK.out.2.2.2.2 (by decide), HK.out.2.2.2.1⟩, HL3.out.mono (fun _ _ _ h => exprP_mono (fun k _ h => h.elim .inl (fun h => .inr (Nat.le_trans HT.out.size h))) h) (fun k _ h => h.elim .inl (fun h => .inr (Nat.le_trans HT.out.size h)))⟩
      rw [setCells4'] at hdone
      exact ⟨_, rfl, by rw [HR.out]; exact exprP_mono (fun k _ h => h.elim .inl (fun h => .inr (by omega))) hdone.1, hdone.2⟩
    · have h10 : (op == 2) = false := by simpa using h1
      clear hcond h1
      go_wp2_with fail
      refine HM.out.mono ?_
      rintro e w2 ⟨a', c', rfl, hl2, hb2⟩
      have HT2 := Lib.hid (HT.out.later hb2)
      have HL := Lib.hid hl2
      have q3 := HT2.out.p3
      have qf := HT2.out.pf 3
      clear hb2 hl2 p0 p2 p3 d0 d2 HM
      go_upto_region 4 with fail
      have HT3 := Lib.hid (HT2.out.setP (.slice a' kids.length c'))
      have HL3 := Lib.hid (listP_turned (T := fun k => k = w.heap.size) HL.out (turned_store w2 w.heap.size 3 (.slice a' kids.length c')) (fun k h1 h2 h3 => by subst h3; rcases h2 with h2 | h2; exact absurd (HK.out.2.2.1 _ h2) (by omega); have := HT.out.size; omega) (fun _ _ _ h => exprP_turned (turned_store w2 w.heap.size 3 (.slice a' kids.length c')) (fun k h1 h2 h3 => by subst h3; rcases h2 with h2 | h2; exact absurd (HK.out.2.2.1 _ h2) (by omega); have := HT.out.size; omega) h))
      clear q3 qf
      generalize w2.setCell ⟨w.heap.size, 3, none⟩ (.slice a' kids.length c') = W3 at HT3 HL3 ⊢
      have p0 := HT3.out.p0
      have p1 := HT3.out.p1
      have p2 := HT3.out.p2
      have p3 := HT3.out.p3
      have z0 := HT3.out.z0
      have z1 := HT3.out.z1
      have z2 := HT3.out.z2
      have z3 := HT3.out.z3
      have f0 := HT3.out.zf 0
      have f1 := HT3.out.zf 1
      have f2 := HT3.out.zf 2
      have f3 := HT3.out.zf 3
      go_wp2
      refine bodyPost_ret (results_cell_row rfl _ _ (w.heap.size + 1) 29 #[.int .i64 op, .int .i64 n, .string name, .slice a' kids.length c'] (0, 0) _ rfl ?_ Tryd.underlying29 rfl (by kernel_rfl)) rfl ?_
      · exact HT3.out.put (cs := [.int .i64 op, .int .i64 n, .string name, .slice a' kids.length c']) rfl
      have hlm : (kids.map (putD s (numE v) m)).length = kids.length := List.length_map _
      have hdone := HT3.out.done (S := fun k => S k ∨ w.heap.size + 2 ≤ k) (fun k h => h.elim (fun h => .inl (HK.out.2.2.1 k h)) .inr) (cs := [.int .i64 op, .int .i64 n, .string name, .slice a' kids.length c']) (x := .mk op n name (kids.map (putD s (numE v) m))) (d := m + 1) ⟨a', c', by show _ = [_, _, _, Value.slice a' (kids.map (putD s (numE v) m)).length c']; rw [hlm]; rfl, ⟨by show (kids.map (putD s (numE v) m)).length ≤ maxLen; rw [hlm]; exact Nat.le_trans HK.out.2.2.2.2 (by decide), HK.out.2.2.2.1⟩, HL3.out.mono (fun _ _ _ h => exprP_mono (fun k _ h => h.elim .inl (fun h => .inr (Nat.le_trans HT.out.size h))) h) (fun k _ h => h.elim .inl (fun h => .inr (Nat.le_trans HT.out.size h)))⟩
      rw [setCells4'] at hdone
      exact ⟨_, rfl, by rw [HR.out]; exact exprP_mono (fun k _ h => h.elim .inl (fun h => .inr (by omega))) hdone.1, hdone.2⟩

theorem store_newE (w : World) (b : Nat) (old v : Value) (t : TypeId) (hb : b = w.heap.size) (hv : v.oneCell' = true) : (store ⟨b, 0, none⟩ v).run Tryd.prog (w.alloc (.cells #[old] t)) = .ok () (w.alloc (.cells #[v] t)) := by
  subst hb
  have h0 : (w.alloc (.cells #[old] t)).cell? ⟨w.heap.size, 0, none⟩ = some old := cell_of_row _ _ 0 _ _ _ (heap_alloc_new w _)
  rw [run_store _ _ _ _ _ hv, h0, frozen_of_row _ _ 0 _ _ (heap_alloc_new w _)]
  simp only [Bool.false_eq_true, if_false]
  rw [World.setCell_alloc_new]
  rfl
theorem blocks4 (w : World) (P Q R T : Obj) : ((((w.alloc P).alloc Q).alloc R).alloc T).heap[w.heap.size]? = some P ∧ ((((w.alloc P).alloc Q).alloc R).alloc T).heap[w.heap.size + 1]? = some Q ∧ ((((w.alloc P).alloc Q).alloc R).alloc T).heap[w.heap.size + 2]? = some R ∧ ((((w.alloc P).alloc Q).alloc R).alloc T).heap[w.heap.size + 3]? = some T ∧ Below w.heap.size w ((((w.alloc P).alloc Q).alloc R).alloc T) ∧ ((((w.alloc P).alloc Q).alloc R).alloc T).heap.size = w.heap.size + 4 := by
  obtain ⟨ht, hs, hb⟩ := three_blocks w P Q R
  have h3 := heap_alloc_new (((w.alloc P).alloc Q).alloc R) T
  rw [hs] at h3
  have ho : ∀ k, k < w.heap.size + 3 → ((((w.alloc P).alloc Q).alloc R).alloc T).heap[k]? = (((w.alloc P).alloc Q).alloc R).heap[k]? := fun k hk => heap_alloc_old _ _ (by omega)
  exact ⟨(ho _ (by omega)).trans ht.p, (ho _ (by omega)).trans ht.z, (ho _ (by omega)).trans ht.u, h3, hb.alloc hb.size _, by rw [World.size_alloc, hs]⟩
set_option maxRecDepth 100000 in
set_option maxHeartbeats 4000000 in
theorem putVar_any (S : Nat → Prop) (cs : List Value) (x : ExprD) (s : ByteArray) (v : Int) (w : World) (hO : OpsAt w) (hK : KeysAt w) (hv : inE 0 v 255 = true) (hs : sizeD nameD 6 x ≠ none) (hx : ExprP 6 S w cs x) (hS : ∀ k, S k → k < w.heap.size) :
    Calls Tryd.prog 48 #[.agg cs.toArray, .string s, .agg #[.int .i64 1, .int .i64 v, .string ⟨#[]⟩, .slice none 0 0]] w fun e w' => ∃ cs', e = .returned (.tuple #[.agg (List.toArray cs'), .bool true]) ∧ ExprP 6 (fun k => S k ∨ w.heap.size ≤ k) w' cs' (putD s (numE v) 6 x) ∧ Below w.heap.size w w' := by
  obtain ⟨xa, xc, rfl⟩ := exprP_form hx
  obtain ⟨y, hy⟩ : ∃ y, y = putD s (numE v) 6 x := ⟨_, rfl⟩
  rw [← hy]
  have HY := Lib.hid hy
  clear hy
  have HB := Lib.hid (blocks4 w (.cells #[.int .i64 x.op, .int .i64 x.n, .string x.name, .slice xa x.kids.length xc] 29) (.cells #[.string s] 9) (.cells #[.int .i64 1, .int .i64 v, .string ⟨#[]⟩, .slice none 0 0] 29) (.cells #[.int .i64 0, .int .i64 0, .string ⟨#[]⟩, .slice none 0 0] 29))
  have HI := Lib.hid (And.intro hs (And.intro hx (And.intro hS (And.intro (And.intro hO hK) hv))))
  clear hs hx hS hO hK hv
  go_enter Tryd.func48, Tryd.ntmps48
  go_upto_region 1 with fail
  generalize (((w.alloc (.cells #[.int .i64 x.op, .int .i64 x.n, .string x.name, .slice xa x.kids.length xc] 29)).alloc (.cells #[.string s] 9)).alloc (.cells #[.int .i64 1, .int .i64 v, .string ⟨#[]⟩, .slice none 0 0] 29)).alloc (.cells #[.int .i64 0, .int .i64 0, .string ⟨#[]⟩, .slice none 0 0] 29) = W1 at HB ⊢
  obtain ⟨B0, hB0⟩ : ∃ b, b = w.heap.size := ⟨_, rfl⟩
  have HQ := Lib.hid hB0
  rw [← hB0] at HB ⊢
  clear hB0
  have e0 := cell_of_row _ _ 0 _ _ _ HB.out.1
  have e1 := cell_of_row _ _ 1 _ _ _ HB.out.1
  have e2 := cell_of_row _ _ 2 _ _ _ HB.out.1
  have e3 := cell_of_row _ _ 3 _ _ _ HB.out.1
  simp only [List.getElem?_toArray, List.getElem?_cons_zero, List.getElem?_cons_succ] at e0 e1 e2 e3
  have HB1 := Lib.hid (show Below w.heap.size w W1 by rw [← HQ.out]; exact HB.out.2.2.2.2.1)
  have HV1 := Lib.hid (exprValidN_any 6 _ x W1 (HI.out.2.2.2.1.1.later HB1.out) (HI.out.2.2.2.1.2.later HB1.out) (exprP_at (exprP_below HB1.out HI.out.2.1)))
  have HSZ := Lib.hid (show (sizeD nameD 6 x).isSome = true by
    cases h : sizeD nameD 6 x with
    | none => exact absurd h HI.out.1
    | some q => rfl)
  rw [HSZ.out] at HV1
  go_wp2_with fail
  refine HV1.out.mono ?_
  rintro e w2 ⟨rfl, hb2⟩
  have HB2 := Lib.hid (And.intro hb2 (HB1.out.trans (hb2.mono HB1.out.size)))
  have r2 := (hb2.block _ (by have := HB.out.2.2.2.2.2; omega)).trans HB.out.2.2.1
  have b0 := cell_of_row _ _ 0 _ _ _ r2
  have b1 := cell_of_row _ _ 1 _ _ _ r2
  have b2 := cell_of_row _ _ 2 _ _ _ r2
  have b3 := cell_of_row _ _ 3 _ _ _ r2
  simp only [List.getElem?_toArray, List.getElem?_cons_zero, List.getElem?_cons_succ] at b0 b1 b2 b3
  have HV2 := Lib.hid (exprValidN_any 6 _ (numE v) w2 (HI.out.2.2.2.1.1.later HB2.out.2) (HI.out.2.2.2.1.2.later HB2.out.2) (exprAt_num 5 v))
  rw [show (sizeD nameD 6 (numE v)).isSome = true by rw [numE_size HI.out.2.2.2.2 5]; rfl] at HV2
  have k0 := cell_later hb2 e0
  have k1 := cell_later hb2 e1
  have k2 := cell_later hb2 e2
  have k3 := cell_later hb2 e3
  clear hb2 r2 e0 e1 e2 e3
  go_wp2_with fail
  refine HV2.out.mono ?_
  rintro e w3 ⟨rfl, hb3⟩
  have l0 := cell_later hb3 k0
  have l1 := cell_later hb3 k1
  have l2 := cell_later hb3 k2
  have l3 := cell_later hb3 k3
  have HB3 := Lib.hid (And.intro (HB2.out.1.trans (hb3.mono HB2.out.1.size)) (HB2.out.2.trans (hb3.mono HB2.out.2.size)))
  clear hb3 k0 k1 k2 k3 b0 b1 b2 b3 HV1 HV2 HB2
  have hsf : (store ⟨w3.heap.size, 0, none⟩ (.func (.func 99) #[] #[.pointer (some ⟨B0 + 1, 0, none⟩), .pointer (some ⟨B0 + 1 + 1, 0, none⟩), .pointer (some ⟨w3.heap.size, 0, none⟩)])).run Tryd.prog (w3.alloc (.cells #[.nilFunc] 115)) = .ok () (w3.alloc (.cells #[.func (.func 99) #[] #[.pointer (some ⟨B0 + 1, 0, none⟩), .pointer (some ⟨B0 + 1 + 1, 0, none⟩), .pointer (some ⟨w3.heap.size, 0, none⟩)]] 115)) := store_newE _ _ _ _ _ rfl rfl
  have H5 := Lib.hid (show Below w3.heap.size w3 (w3.alloc (.cells #[.func (.func 99) #[] #[.pointer (some ⟨B0 + 1, 0, none⟩), .pointer (some ⟨B0 + 1 + 1, 0, none⟩), .pointer (some ⟨w3.heap.size, 0, none⟩)]] 115)) ∧ (w3.alloc (.cells #[.func (.func 99) #[] #[.pointer (some ⟨B0 + 1, 0, none⟩), .pointer (some ⟨B0 + 1 + 1, 0, none⟩), .pointer (some ⟨w3.heap.size, 0, none⟩)]] 115)).heap[w3.heap.size]? = some (.cells #[.func (.func 99) #[] #[.pointer (some ⟨B0 + 1, 0, none⟩), .pointer (some ⟨B0 + 1 + 1, 0, none⟩), .pointer (some ⟨w3.heap.size, 0, none⟩)]] 115 (0, 0)) from ⟨(Below.refl _ _).alloc (Nat.le_refl _) _, heap_alloc_new _ _⟩)
  go_upto_region 5 with fail
  obtain ⟨pb, hpb⟩ : ∃ b, b = w3.heap.size := ⟨_, rfl⟩
  clear hsf
  rw [← hpb] at H5 ⊢
  generalize w3.alloc (.cells #[.func (.func 99) #[] #[.pointer (some ⟨B0 + 1, 0, none⟩), .pointer (some ⟨B0 + 1 + 1, 0, none⟩), .pointer (some ⟨pb, 0, none⟩)]] 115) = W5 at H5 ⊢
  rw [hpb] at H5
  have H5b := Lib.hid (show W5.heap[pb]? = some (.cells #[.func (.func 99) #[] #[.pointer (some ⟨B0 + 1, 0, none⟩), .pointer (some ⟨B0 + 1 + 1, 0, none⟩), .pointer (some ⟨pb, 0, none⟩)]] 115 (0, 0)) by rw [hpb]; exact H5.out.2)
  clear hpb
  have m0 := cell_later H5.out.1 l0
  have m1 := cell_later H5.out.1 l1
  have m2 := cell_later H5.out.1 l2
  have m3 := cell_later H5.out.1 l3
  have HB5 := Lib.hid (And.intro (HB3.out.1.trans (H5.out.1.mono HB3.out.1.size)) (HB3.out.2.trans (H5.out.1.mono HB3.out.2.size)))
  have pc := cell_of_row _ _ 0 _ _ _ H5b.out
  simp only [List.getElem?_toArray, List.getElem?_cons_zero] at pc
  clear l0 l1 l2 l3
  have hen : ∀ v W, (callFunc 99 (#[v] ++ #[.pointer (some ⟨B0 + 1, 0, none⟩), .pointer (some ⟨B0 + 1 + 1, 0, none⟩), .pointer (some ⟨pb, 0, none⟩)])).run Tryd.prog W = .ok (.enter 99 (#[v] ++ #[.pointer (some ⟨B0 + 1, 0, none⟩), .pointer (some ⟨B0 + 1 + 1, 0, none⟩), .pointer (some ⟨pb, 0, none⟩)])) W := fun v W => by kernel_rfl
  have HPUT := Lib.hid (put_any s v (B0 + 1) (B0 + 1 + 1) pb 6 S _ x W5 HI.out.1 (exprP_below HB5.out.2 HI.out.2.1) (fun k h => Nat.lt_of_lt_of_le (HI.out.2.2.1 k h) HB5.out.2.size)
    (cell_of_row _ _ 0 _ _ _ ((HB5.out.1.block _ (by have := HB.out.2.2.2.2.2; omega)).trans HB.out.2.1)) ((HB5.out.1.block _ (by have := HB.out.2.2.2.2.2; omega)).trans HB.out.2.2.1) pc)
  rw [← HY.out] at HPUT
  go_wp2_with fail
  refine HPUT.out.mono ?_
  rintro e w6 ⟨cs6, rfl, hx6, hb6⟩
  have HF := Lib.hid (exprP_form hx6)
  have HX6 := Lib.hid (And.intro hx6 (And.intro (HB5.out.2.trans (hb6.mono HB5.out.2.size)) (HB5.out.1.trans (hb6.mono HB5.out.1.size))))
  clear hx6 hb6 HPUT hen m0 m1 m2 m3 pc
  have HS6 := Lib.hid (put_valid (s := s) HI.out.2.2.2.2 (m := 6) (d := 6) HI.out.1)
  rw [← HY.out] at HS6
  obtain ⟨ya, yc, hcs⟩ := HF.out
  subst hcs
  clear HF
  have hba : Below w6.heap.size w6 (w6.alloc (.cells #[.int .i64 y.op, .int .i64 y.n, .string y.name, .slice ya y.kids.length yc] 29)) := (Below.refl _ _).alloc (Nat.le_refl _) _
  have H7 := Lib.hid (And.intro hba (heap_alloc_new w6 (.cells #[.int .i64 y.op, .int .i64 y.n, .string y.name, .slice ya y.kids.length yc] 29)))
  clear hba
  go_upto_region 6 with fail
  obtain ⟨ob, hob⟩ : ∃ b, b = w6.heap.size := ⟨_, rfl⟩
  rw [← hob] at H7 ⊢
  generalize w6.alloc (.cells #[.int .i64 y.op, .int .i64 y.n, .string y.name, .slice ya y.kids.length yc] 29) = W7 at H7 ⊢
  have HB7 := Lib.hid (show Below w6.heap.size w6 W7 by rw [← hob]; exact H7.out.1)
  clear hob
  have o0 := cell_of_row _ _ 0 _ _ _ H7.out.2
  have o1 := cell_of_row _ _ 1 _ _ _ H7.out.2
  have o2 := cell_of_row _ _ 2 _ _ _ H7.out.2
  have o3 := cell_of_row _ _ 3 _ _ _ H7.out.2
  simp only [List.getElem?_toArray, List.getElem?_cons_zero, List.getElem?_cons_succ] at o0 o1 o2 o3
  have HB7w := Lib.hid (And.intro (HX6.out.2.1.trans (HB7.out.mono HX6.out.2.1.size)) (HX6.out.2.2.trans (HB7.out.mono HX6.out.2.2.size)))
  have HV3 := Lib.hid (exprValidN_any 6 _ y W7 (HI.out.2.2.2.1.1.later HB7w.out.1) (HI.out.2.2.2.1.2.later HB7w.out.1) (exprP_at (exprP_below HB7.out HX6.out.1)))
  rw [show (sizeD nameD 6 y).isSome = true by
    cases h : sizeD nameD 6 y with
    | none => exact absurd h HS6.out
    | some q => rfl] at HV3
  go_wp2_with fail
  refine HV3.out.mono ?_
  rintro e w8 ⟨rfl, hb8⟩
  have r8 := ((HB7w.out.2.trans (hb8.mono HB7w.out.2.size)).block (B0 + 3) (by have := HB.out.2.2.2.2.2; omega)).trans HB.out.2.2.2.1
  have HR8 := Lib.hid (And.intro r8 (And.intro (HB7w.out.1.trans (hb8.mono HB7w.out.1.size)) (exprP_below (hb8.mono HB7.out.size |> HB7.out.trans) HX6.out.1)))
  have c0 := cell_later hb8 o0
  have c1 := cell_later hb8 o1
  have c2 := cell_later hb8 o2
  have c3 := cell_later hb8 o3
  have z0 := cell_of_row _ _ 0 _ _ _ r8
  have z1 := cell_of_row _ _ 1 _ _ _ r8
  have z2 := cell_of_row _ _ 2 _ _ _ r8
  have z3 := cell_of_row _ _ 3 _ _ _ r8
  simp only [List.getElem?_toArray, List.getElem?_cons_zero, List.getElem?_cons_succ] at z0 z1 z2 z3
  have f0 := frozen_of_row _ _ 0 _ _ r8
  have f1 := frozen_of_row _ _ 1 _ _ r8
  have f2 := frozen_of_row _ _ 2 _ _ r8
  have f3 := frozen_of_row _ _ 3 _ _ r8
  clear hb8 r8 o0 o1 o2 o3 HV3
  go_wp2
  have ht := turned_setCells (g := B0 + 3) [.int .i64 y.op, .int .i64 y.n, .string y.name, .slice ya y.kids.length yc] w8 0
  have hres : (w8.setCells (B0 + 3) 0 [.int .i64 y.op, .int .i64 y.n, .string y.name, .slice ya y.kids.length yc]).heap[B0 + 3]? = some (.cells #[.int .i64 y.op, .int .i64 y.n, .string y.name, .slice ya y.kids.length yc] 29 (0, 0)) := by
    have := heap_setCells_mid (A := []) (B := [.int .i64 0, .int .i64 0, .string ⟨#[]⟩, .slice none 0 0]) (C := []) (vs := [.int .i64 y.op, .int .i64 y.n, .string y.name, .slice ya y.kids.length yc]) (o := 0) rfl rfl HR8.out.1
    simpa using this
  have hw5 : w.heap.size + 4 ≤ W5.heap.size := by have := HB5.out.1.size; have := HB.out.2.2.2.2.2; have := HQ.out; omega
  have hx9 := exprP_turned ht (fun k _ h1 h2 => by
    rcases h1 with h1 | h1
    · have := HI.out.2.2.1 k h1; have := HQ.out; omega
    · have := HQ.out; omega) HR8.out.2.2
  have hb9 := HR8.out.2.1.trans (ht.below (B := w.heap.size) HR8.out.2.1.size (fun k hk => by have := HQ.out; omega))
  rw [setCells4'] at hres hx9 hb9
  refine bodyPost_ret (results_cell2 rfl _ _ (B0 + 3) 29 #[.int .i64 y.op, .int .i64 y.n, .string y.name, .slice ya y.kids.length yc] (0, 0) _ rfl ?_ Tryd.underlying29 rfl (by kernel_rfl)) rfl ?_
  · exact hres
  exact ⟨_, rfl, exprP_mono (fun k _ (h : S k ∨ W5.heap.size ≤ k) => h.elim .inl (fun h => .inr (by omega))) hx9, hb9⟩

end Go.Proofs.YtccfbnhlhjlmgaaDoor
