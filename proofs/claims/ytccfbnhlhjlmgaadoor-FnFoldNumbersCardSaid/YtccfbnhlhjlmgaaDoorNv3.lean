
/-
  VarsOf: the walk; what its answer holds (plain).
-/
import Derived.Test.YtccfbnhlhjlmgaaDoorNv2
namespace Go.Proofs.YtccfbnhlhjlmgaaDoor
open Go.RowKit
set_option linter.unusedVariables false

def varsD (x : ExprD) : List ByteArray := visitD (addN 2) 6 x []
theorem hasE_append {xs ys : List ByteArray} {s : ByteArray} : hasE (xs ++ ys) s = (hasE xs s || hasE ys s) := by
  unfold hasE; rw [List.any_append]
theorem addN_mono {op : Int} {x : ExprD} {acc : List ByteArray} {s : ByteArray} (h : hasE acc s = true) : hasE (addN op x acc) s = true := by
  unfold addN
  split
  · rw [hasE_append, h]; rfl
  · exact h
theorem addN_has {op : Int} {x : ExprD} {acc : List ByteArray} (h : x.op = op) : hasE (addN op x acc) x.name = true := by
  unfold addN
  split
  · rw [hasE_append]
    show (hasE acc x.name || ((x.name.toList == x.name.toList) || false)) = true
    simp
  · rename_i h2
    cases h3 : hasE acc x.name with
    | true => rfl
    | false => exact absurd ⟨h, h3⟩ h2
theorem visit_mono {op : Int} {s : ByteArray} : ∀ (m : Nat) (x : ExprD) (acc : List ByteArray), hasE acc s = true → hasE (visitD (addN op) m x acc) s = true
  | 0, _, _, h => h
  | m + 1, x, acc, h => by
    have hf : ∀ (ks : List ExprD) (acc : List ByteArray), hasE acc s = true → hasE (ks.foldl (fun st k => visitD (addN op) m k st) acc) s = true := by
      intro ks
      induction ks with
      | nil => exact fun _ h => h
      | cons k ks ih => exact fun acc h => ih _ (visit_mono m k acc h)
    exact hf x.kids _ (addN_mono h)
theorem fold_mono {op : Int} {s : ByteArray} {m : Nat} : ∀ (ks : List ExprD) (acc : List ByteArray), hasE acc s = true → hasE (ks.foldl (fun st k => visitD (addN op) m k st) acc) s = true
  | [], _, h => h
  | k :: ks, acc, h => fold_mono ks _ (visit_mono m k acc h)
/-- A part that has no value where these names have one: not for its name. -/
def badQ (e : ExprD) : Bool := (e.op == 12) || (e.op == 13)
/-- All variables are among the names that are returned. -/
theorem visit_bad {ns : List ByteArray} : ∀ (m : Nat) (x : ExprD) (acc : List ByteArray), anyE badQ m x = false → (∀ s, hasE (visitD (addN 2) m x acc) s = true → hasE ns s = true) → anyE (badP ns) m x = false
  | 0, _, _, _, _ => rfl
  | m + 1, x, acc, h, hns => by
    obtain ⟨h1, h2⟩ := any_partsE h
    have hb : ((x.op == 12) || (x.op == 13)) = false := h1
    rw [Bool.or_eq_false_iff] at hb
    have hp : badP ns x = false := by
      show ((x.op == 12) || ((x.op == 13) || ((x.op == 2) && !hasE ns x.name))) = false
      rw [hb.1, hb.2]
      by_cases h2 : x.op = 2
      · rw [hns x.name (fold_mono _ _ (addN_has h2))]; simp
      · simp [h2]
    have hk : ∀ (ks : List ExprD) (acc : List ByteArray), (∀ k ∈ ks, anyE badQ m k = false) → (∀ s, hasE (ks.foldl (fun st k => visitD (addN 2) m k st) acc) s = true → hasE ns s = true) → ∀ k ∈ ks, anyE (badP ns) m k = false := by
      intro ks
      induction ks with
      | nil => exact fun _ _ _ k hk => by simp at hk
      | cons q ks ih =>
        intro acc hq hs k hk
        rcases List.mem_cons.1 hk with rfl | hk
        · exact visit_bad m k acc (hq k List.mem_cons_self) (fun s h => hs s (fold_mono ks _ h))
        · exact ih _ (fun k' h' => hq k' (List.mem_cons_of_mem _ h')) hs k hk
    show (badP ns x || x.kids.any (anyE (badP ns) m)) = false
    rw [hp, Bool.false_or, List.any_eq_false]
    intro k hk'
    rw [hk x.kids _ h2 hns k hk']; simp
theorem visit_none : ∀ (m : Nat) (x : ExprD) (acc : List ByteArray), anyE (fun e => e.op == 2) m x = false → visitD (addN 2) m x acc = acc
  | 0, _, _, _ => rfl
  | m + 1, x, acc, h => by
    obtain ⟨h1, h2⟩ := any_partsE h
    have h1 : (x.op == 2) = false := h1
    have h3 : addN 2 x acc = acc := by
      unfold addN
      rw [if_neg]
      rintro ⟨h4, _⟩
      rw [h4] at h1
      cases h1
    have hf : ∀ (ks : List ExprD), (∀ k ∈ ks, anyE (fun e => e.op == 2) m k = false) → ks.foldl (fun st k => visitD (addN 2) m k st) acc = acc := by
      intro ks
      induction ks with
      | nil => exact fun _ => rfl
      | cons k ks ih =>
        intro hk
        rw [List.foldl_cons, visit_none m k acc (hk k List.mem_cons_self)]
        exact ih (fun k' h' => hk k' (List.mem_cons_of_mem _ h'))
    show x.kids.foldl (fun st k => visitD (addN 2) m k st) (addN 2 x acc) = acc
    rw [h3]
    exact hf x.kids h2
/-- The names that are returned are names. -/
theorem visit_names : ∀ (m : Nat) (x : ExprD) (acc : List ByteArray), sizeD nameD m x ≠ none → (∀ s ∈ acc, nameD s = true) → ∀ s ∈ visitD (addN 2) m x acc, nameD s = true
  | 0, _, _, h, _ => absurd rfl h
  | m + 1, x, acc, h, ha => by
    obtain ⟨m', hm, hh, hk⟩ := size_parts h
    cases hm
    have h1 : ∀ s ∈ addN 2 x acc, nameD s = true := by
      unfold addN
      split
      · rename_i h2
        intro s hs
        rcases List.mem_append.1 hs with hs | hs
        · exact ha s hs
        · simp at hs
          subst hs
          rw [h2.1, headB, if_neg (by decide), if_pos rfl] at hh
          simp only [Bool.and_eq_true] at hh
          exact hh.1
      · exact ha
    have hf : ∀ (ks : List ExprD) (acc : List ByteArray), (∀ k ∈ ks, sizeD nameD m k ≠ none) → (∀ s ∈ acc, nameD s = true) → ∀ s ∈ ks.foldl (fun st k => visitD (addN 2) m k st) acc, nameD s = true := by
      intro ks
      induction ks with
      | nil => exact fun _ _ h => h
      | cons k ks ih => exact fun acc hk ha => ih _ (fun k' h' => hk k' (List.mem_cons_of_mem _ h')) (visit_names m k acc (hk k List.mem_cons_self) ha)
    exact hf x.kids _ hk h1
theorem nameD_size {s : ByteArray} (h : nameD s = true) : s.size ≤ maxLen := by
  unfold nameD at h
  simp only [Bool.and_eq_true, decide_eq_true_eq] at h
  have := h.2.1
  unfold maxLen
  omega
theorem addN_len {op : Int} (x : ExprD) (acc : List ByteArray) : (addN op x acc).length ≤ acc.length + 1 := by
  unfold addN
  split
  · simp
  · omega
theorem varsD_len {x : ExprD} (h : sizeD nameD 6 x ≠ none) : (varsD x).length ≤ 4096 := by
  have := bnd_visit (bnd := List.length) (fun x st => addN_len (op := 2) x st) 6 x [] h
  have hc : cap 6 = 4096 := by decide
  rw [hc] at this
  simpa [varsD] using this
theorem blocks3 (w : World) (P Q R : Obj) : (((w.alloc P).alloc Q).alloc R).heap[w.heap.size]? = some P ∧ (((w.alloc P).alloc Q).alloc R).heap[w.heap.size + 1]? = some Q ∧ (((w.alloc P).alloc Q).alloc R).heap[w.heap.size + 2]? = some R ∧ Below w.heap.size w (((w.alloc P).alloc Q).alloc R) ∧ (((w.alloc P).alloc Q).alloc R).heap.size = w.heap.size + 3 := by
  obtain ⟨ht, hs, hb⟩ := three_blocks w P Q R
  exact ⟨ht.p, ht.z, ht.u, hb, hs⟩

set_option maxRecDepth 100000 in
set_option maxHeartbeats 4000000 in
theorem namesOf_any (cs : List Value) (x : ExprD) (w : World) (hO : OpsAt w) (hK : KeysAt w) (hs : sizeD nameD 6 x ≠ none) (hx : ExprAt 6 w cs x) :
    Calls Tryd.prog 94 #[.agg cs.toArray, .int .i64 2] w fun e w' => ∃ a n c, e = .returned (.slice a n c) ∧ StrsE w' a n (varsD x) ∧ Below w.heap.size w w' := by
  obtain ⟨xa, xc, rfl⟩ := exprAt_form hx
  have HB := Lib.hid (blocks3 w (.cells #[.int .i64 x.op, .int .i64 x.n, .string x.name, .slice xa x.kids.length xc] 29) (.cells #[.int .i64 2] 3) (.cells #[.slice none 0 0] 38))
  have HI := Lib.hid (And.intro hs (And.intro hx (And.intro hO hK)))
  clear hs hx hO hK
  obtain ⟨R, hR⟩ : ∃ R, R = varsD x := ⟨_, rfl⟩
  rw [← hR]
  have HR := Lib.hid hR
  clear hR
  go_enter Tryd.func94, Tryd.ntmps94
  go_upto_region 2 with fail
  generalize ((w.alloc (.cells #[.int .i64 x.op, .int .i64 x.n, .string x.name, .slice xa x.kids.length xc] 29)).alloc (.cells #[.int .i64 2] 3)).alloc (.cells #[.slice none 0 0] 38) = W1 at HB ⊢
  have e0 := cell_of_row _ _ 0 _ _ _ HB.out.1
  have e1 := cell_of_row _ _ 1 _ _ _ HB.out.1
  have e2 := cell_of_row _ _ 2 _ _ _ HB.out.1
  have e3 := cell_of_row _ _ 3 _ _ _ HB.out.1
  simp only [List.getElem?_toArray, List.getElem?_cons_zero, List.getElem?_cons_succ] at e0 e1 e2 e3
  have HV := Lib.hid (exprValidN_any 6 _ x W1 (HI.out.2.2.1.later HB.out.2.2.2.1) (HI.out.2.2.2.later HB.out.2.2.2.1) (exprAt_lasts 6 _ _ _ _ HB.out.2.2.2.1 HI.out.2.1))
  rw [show (sizeD nameD 6 x).isSome = true by
    cases h : sizeD nameD 6 x with
    | none => exact absurd h HI.out.1
    | some q => rfl] at HV
  go_wp2_with fail
  refine HV.out.mono ?_
  rintro e w2 ⟨rfl, hb2⟩
  have k0 := cell_later hb2 e0
  have k1 := cell_later hb2 e1
  have k2 := cell_later hb2 e2
  have k3 := cell_later hb2 e3
  have H2 := Lib.hid (show Below w.heap.size w w2 ∧ NamesSt w (w.heap.size + 1) (w.heap.size + 2) 2 w2 [] from
    ⟨HB.out.2.2.2.1.trans (hb2.mono HB.out.2.2.2.1.size), NamesSt.later ⟨⟨by omega, by omega⟩, HB.out.2.1, none, 0, 0, HB.out.2.2.1, World.ownsRow_nil _ _ _ _⟩ hb2⟩)
  clear hb2 e0 e1 e2 e3 HV
  have hen : ∀ v W, (callFunc 137 (#[v] ++ #[.pointer (some ⟨w.heap.size + 1, 0, none⟩), .pointer (some ⟨w.heap.size + 2, 0, none⟩)])).run Tryd.prog W = .ok (.enter 137 (#[v] ++ #[.pointer (some ⟨w.heap.size + 1, 0, none⟩), .pointer (some ⟨w.heap.size + 2, 0, none⟩)])) W := fun v W => by kernel_rfl
  have HP := Lib.hid (parts_gen w 137 #[.pointer (some ⟨w.heap.size + 1, 0, none⟩), .pointer (some ⟨w.heap.size + 2, 0, none⟩)] (NamesSt w (w.heap.size + 1) (w.heap.size + 2) 2) (addN 2) List.length
    ⟨hen, fun d cs x W acc hx hW hI hb => namesC_any w (w.heap.size + 1) (w.heap.size + 2) 2 d cs x W acc hx hW hI hb, fun _ _ _ h hb => h.later hb, fun x st => addN_len x st⟩ 6 [] _ x w2 HI.out.1 HI.out.2.1 H2.out.1 H2.out.2 (by decide))
  clear hen
  go_wp2_with fail
  refine HP.out.mono ?_
  rintro e w3 ⟨rfl, hI3, hb3, -⟩
  obtain ⟨a, n, c, hbo, hown⟩ := hI3.row
  have HF := Lib.hid (show StrsE w3 a n R ∧ Below w.heap.size w w3 from ⟨by rw [HR.out]; exact ⟨by have := hown.1; simpa [varsD] using this, rowAt_of_own hown⟩, H2.out.1.trans hb3⟩)
  have s0 := cell_of_row _ _ 0 _ _ _ hbo
  simp only [List.getElem?_toArray, List.getElem?_cons_zero] at s0
  clear hI3 hb3 hbo hown k0 k1 k2 k3
  go_wp2
  go_ret
  exact ⟨a, n, c, rfl, HF.out⟩

set_option maxRecDepth 100000 in
theorem varsOf_any (cs : List Value) (x : ExprD) (w : World) (hO : OpsAt w) (hK : KeysAt w) (hs : sizeD nameD 6 x ≠ none) (hx : ExprAt 6 w cs x) :
    Calls Tryd.prog 38 #[.agg cs.toArray] w fun e w' => ∃ a n c, e = .returned (.slice a n c) ∧ StrsE w' a n (varsD x) ∧ Below w.heap.size w w' := by
  obtain ⟨xa, xc, rfl⟩ := exprAt_form hx
  have hba : Below w.heap.size w (w.alloc (.cells #[.int .i64 x.op, .int .i64 x.n, .string x.name, .slice xa x.kids.length xc] 29)) := (Below.refl _ _).alloc (Nat.le_refl _) _
  have hrow := heap_alloc_new w (.cells #[.int .i64 x.op, .int .i64 x.n, .string x.name, .slice xa x.kids.length xc] 29)
  have e0 := cell_of_row _ _ 0 _ _ _ hrow
  have e1 := cell_of_row _ _ 1 _ _ _ hrow
  have e2 := cell_of_row _ _ 2 _ _ _ hrow
  have e3 := cell_of_row _ _ 3 _ _ _ hrow
  simp only [List.getElem?_toArray, List.getElem?_cons_zero, List.getElem?_cons_succ] at e0 e1 e2 e3
  have HN := Lib.hid (And.intro (namesOf_any _ x _ (hO.later hba) (hK.later hba) hs (exprAt_lasts 6 _ _ _ _ hba hx)) hba)
  clear hba hrow hO hK hs hx
  go_enter Tryd.func38, Tryd.ntmps38
  go_wp2_with fail
  refine HN.out.1.mono ?_
  rintro e w2 ⟨a, n, c, rfl, hS, hb2⟩
  have HF := Lib.hid (And.intro hS (HN.out.2.trans (hb2.mono HN.out.2.size)))
  clear hS hb2 e0 e1 e2 e3
  go_wp2
  go_ret
  exact ⟨a, n, c, rfl, HF.out⟩

end Go.Proofs.YtccfbnhlhjlmgaaDoor
