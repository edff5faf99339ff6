
/-
  Folding (the reference's): a part whose Kids have been folded.
-/
import Derived.Test.YtccfbnhlhjlmgaaDoorDs
import Derived.Test.YtccfbnhlhjlmgaaDoorEs5
import Derived.Test.YtccfbnhlhjlmgaaDoorSe
namespace Go.Proofs.YtccfbnhlhjlmgaaDoor
open Go.RowKit
set_option linter.unusedVariables false

set_option maxHeartbeats 1000000 in
theorem isNumS_any (op n : Int) (s : ByteArray) (v : Value) (k : Int) (w : World) (b : Bool) (hb : b = (op == 1 && n == k)) : Calls Tryd.prog 153 #[.agg #[.int .i64 op, .int .i64 n, .string s, v], .int .i64 k] w fun e w' => e = .returned (.bool b) ∧ Below w.heap.size w w' := by
  have hrow := heap_alloc_new w (.cells #[.int .i64 op, .int .i64 n, .string s, v] 29)
  have HB := Lib.hid (And.intro (show Below w.heap.size w (w.alloc (.cells #[.int .i64 op, .int .i64 n, .string s, v] 29)) from (Below.refl _ _).alloc (Nat.le_refl _) _) hb)
  clear hb
  go_enter Tryd.func153, Tryd.ntmps153
  go_upto_region 1 with fail
  generalize w.alloc (.cells #[.int .i64 op, .int .i64 n, .string s, v] 29) = W1 at HB hrow ⊢
  have e0 := cell_of_row _ _ 0 _ _ _ hrow
  have e1 := cell_of_row _ _ 1 _ _ _ hrow
  simp only [List.getElem?_toArray, List.getElem?_cons_zero, List.getElem?_cons_succ] at e0 e1
  clear hrow
  by_cases h1 : op = 1
  · subst h1
    have HR := Lib.hid (show (n == k) = b by rw [HB.out.2]; simp)
    go_wp2
    go_ret
    exact ⟨ret_bool HR.out, HB.out.1⟩
  · have h2 : (op == 1) = false := by simpa using h1
    have HR := Lib.hid (show false = b by rw [HB.out.2, h2]; rfl)
    clear h1
    go_wp2
    go_ret
    exact ⟨ret_bool HR.out, HB.out.1⟩


/-- What the reference makes of a part between two, said as it says it. -/
theorem partG_as {op n : Int} {name : ByteArray} {a b : ExprD} (h11 : op ≠ 11) : partG (.mk op n name [a, b]) =
    if ((op == 10) && isNumB a 0) = true then numE 0
    else if ((isNumB b 0 && ((op == 3) || (op == 4))) || (isNumB b 1 && ((op == 5) || (op == 6)))) = true then a
    else if ((isNumB a 0 && (op == 3)) || (isNumB a 1 && (op == 5))) = true then b
    else if ((op == 5) && ((isNumB b 0 && safeD a) || (isNumB a 0 && safeD b))) = true then numE 0
    else .mk op n name [a, b] := by
  show (if op = 11 then _ else if op = 10 then (if isNumB a 0 = true then numE 0 else .mk op n name [a, b])
    else if op = 3 then (if isNumB b 0 = true then a else if isNumB a 0 = true then b else .mk op n name [a, b])
    else if op = 4 then (if isNumB b 0 = true then a else .mk op n name [a, b])
    else if op = 5 then (if isNumB b 1 = true then a else if isNumB a 1 = true then b else if ((isNumB b 0 && safeD a) || (isNumB a 0 && safeD b)) = true then numE 0 else .mk op n name [a, b])
    else if op = 6 then (if isNumB b 1 = true then a else .mk op n name [a, b])
    else .mk op n name [a, b]) = _
  rw [if_neg h11]
  by_cases h10 : op = 10
  · subst h10; cases isNumB a 0 <;> simp
  by_cases h3 : op = 3
  · subst h3; cases isNumB b 0 <;> cases isNumB a 0 <;> simp
  by_cases h4 : op = 4
  · subst h4; cases isNumB b 0 <;> simp
  by_cases h5 : op = 5
  · subst h5; cases isNumB b 1 <;> cases isNumB a 1 <;> simp
  by_cases h6 : op = 6
  · subst h6; cases isNumB b 1 <;> simp
  rw [if_neg h10, if_neg h3, if_neg h4, if_neg h5, if_neg h6]
  have a1 : (op == 10) = false := by simpa using h10
  have a2 : (op == 3) = false := by simpa using h3
  have a3 : (op == 4) = false := by simpa using h4
  have a4 : (op == 5) = false := by simpa using h5
  have a5 : (op == 6) = false := by simpa using h6
  rw [a1, a2, a3, a4, a5]
  simp
theorem FP.pair {w : World} {op n : Int} {s : ByteArray} {x a b : ExprD} {v : Value} {aa : Option Addr} {ac : Nat} {ba : Option Addr} {bc : Nat} {W1 : World} {m : Nat} {S : Nat → Prop} (h : TwoE w op n s v W1) (hx : FX m S op n s v x a b aa ac ba bc W1) :
    FP w op n s a b v aa ac ba bc W1.heap.size (W1.heap.size + 1) ((W1.alloc (.cells #[.int .i64 a.op, .int .i64 a.n, .string a.name, .slice aa a.kids.length ac] 29)).alloc (.cells #[.int .i64 b.op, .int .i64 b.n, .string b.name, .slice ba b.kids.length bc] 29)) ∧
    FX m S op n s v x a b aa ac ba bc ((W1.alloc (.cells #[.int .i64 a.op, .int .i64 a.n, .string a.name, .slice aa a.kids.length ac] 29)).alloc (.cells #[.int .i64 b.op, .int .i64 b.n, .string b.name, .slice ba b.kids.length bc] 29)) := by
  obtain ⟨h1, h2, h3, h4⟩ := blocks2 W1 (.cells #[.int .i64 a.op, .int .i64 a.n, .string a.name, .slice aa a.kids.length ac] 29) (.cells #[.int .i64 b.op, .int .i64 b.n, .string b.name, .slice ba b.kids.length bc] 29)
  exact ⟨⟨h.later h3, h1, h2⟩, hx.later h3⟩
theorem FP.single {w : World} {op n : Int} {s : ByteArray} {x a : ExprD} {v : Value} {aa : Option Addr} {ac : Nat} {W1 : World} {m : Nat} {S : Nat → Prop} (h : TwoE w op n s v W1) (hx : FX m S op n s v x a a aa ac aa ac W1) :
    FP w op n s a a v aa ac aa ac W1.heap.size W1.heap.size (W1.alloc (.cells #[.int .i64 a.op, .int .i64 a.n, .string a.name, .slice aa a.kids.length ac] 29)) ∧
    FX m S op n s v x a a aa ac aa ac (W1.alloc (.cells #[.int .i64 a.op, .int .i64 a.n, .string a.name, .slice aa a.kids.length ac] 29)) := by
  have h3 : Below W1.heap.size W1 (W1.alloc (.cells #[.int .i64 a.op, .int .i64 a.n, .string a.name, .slice aa a.kids.length ac] 29)) := (Below.refl _ _).alloc (Nat.le_refl _) _
  exact ⟨⟨h.later h3, heap_alloc_new W1 _, heap_alloc_new W1 _⟩, hx.later h3⟩
theorem one_kid {m : Nat} {x : ExprD} (hs : sizeD nameD m x ≠ none) (h : x.op = 11) : ∃ a, x.kids = [a] := by
  obtain ⟨_, _, hh, _⟩ := size_parts hs
  rw [h] at hh
  have hl := head_not hh
  obtain ⟨op, n, name, kids⟩ := x
  match kids, hl with
  | [a], _ => exact ⟨a, rfl⟩
theorem two_kids {m : Nat} {x : ExprD} (hs : sizeD nameD m x ≠ none) (h : 3 ≤ x.op ∧ x.op ≤ 10) : ∃ a b, x.kids = [a, b] := by
  obtain ⟨_, _, hh, _⟩ := size_parts hs
  rw [headB, if_neg (by omega), if_neg (by omega), if_neg (by omega), if_pos (by unfold lvl; repeat' split <;> omega)] at hh
  simp only [Bool.and_eq_true, beq_iff_eq] at hh
  have hl := hh.2.2
  obtain ⟨op, n, name, kids⟩ := x
  match kids, hl with
  | [a, b], _ => exact ⟨a, b, rfl⟩
theorem kid_valid {m : Nat} {x : ExprD} (hs : sizeD nameD (m + 1) x ≠ none) {k : ExprD} (hk : k ∈ x.kids) : sizeD nameD m k ≠ none := by
  obtain ⟨m', hm, _, h2⟩ := size_parts hs
  cases hm
  exact h2 k hk
theorem nums_bad {m : Nat} {op n : Int} {s : ByteArray} {a b : ExprD} (hs : sizeD nameD (m + 2) (.mk op n s [a, b]) ≠ none) (hop : 3 ≤ op ∧ op ≤ 10) (ha : a.op = 1) (hb : b.op = 1) : anyE (badP []) (m + 2) (.mk op n s [a, b]) = false := by
  have hleaf : ∀ k ∈ [a, b], k.op = 1 → anyE (badP []) (m + 1) k = false := fun k hk h1 => by
    obtain ⟨_, _, hh, _⟩ := size_parts (kid_valid hs hk)
    rw [h1] at hh
    have h0 := (head_num hh).2.2
    have hkids : k.kids = [] := List.length_eq_zero_iff.1 h0
    show (badP [] k || k.kids.any (anyE (badP []) m)) = false
    rw [hkids, show badP [] k = false by show ((k.op == 12) || ((k.op == 13) || ((k.op == 2) && !hasE [] k.name))) = false; rw [h1]; rfl]
    rfl
  have h1 : badP [] (.mk op n s [a, b]) = false := by
    show ((op == 12) || ((op == 13) || ((op == 2) && !hasE [] s))) = false
    have e1 : (op == 12) = false := by simp; omega
    have e2 : (op == 13) = false := by simp; omega
    have e3 : (op == 2) = false := by simp; omega
    rw [e1, e2, e3]; rfl
  show (badP [] (.mk op n s [a, b]) || (anyE (badP []) (m + 1) a || (anyE (badP []) (m + 1) b || false))) = false
  rw [h1, hleaf a (by simp) ha, hleaf b (by simp) hb]; rfl
theorem eval_one {G : ByteArray → Option Int} {d : Nat} {k : ExprD} (h : k.op = 1) : evalV G (d + 1) k = some k.n := by
  obtain ⟨op, n, name, kids⟩ := k
  rw [evalV_mk]; exact if_pos h
theorem eval_nums {G : ByteArray → Option Int} {d : Nat} {op n : Int} {s : ByteArray} {a b : ExprD} (ha : a.op = 1) (hb : b.op = 1) (hop : 3 ≤ op ∧ op ≤ 10) : evalV G (d + 2) (.mk op n s [a, b]) = arithD op a.n b.n := by
  by_cases h10 : op = 10
  · subst h10
    rw [evalV_mk, if_neg (by decide), if_neg (by decide), if_pos rfl]
    show (evalV G (d + 1) a).bind (fun u => if u = 0 then some 0 else (evalV G (d + 1) b).bind (fun v => some (truthI (!(v == 0))))) = some (truthI (!(a.n == 0) && !(b.n == 0)))
    rw [eval_one ha, eval_one hb]
    show (if a.n = 0 then some 0 else some (truthI (!(b.n == 0)))) = _
    by_cases h : a.n = 0
    · rw [if_pos h, h]; rfl
    · rw [if_neg h]
      have h2 : (a.n == 0) = false := by simpa using h
      rw [h2]; rfl
  · rw [evalV_two _ _ _ _ _ _ _ (by omega) (by omega) h10, eval_one ha, eval_one hb]; rfl
theorem l6Safe_kid {m : Nat} {k : ExprD} {cs : List Value} {w : World} {S : Nat → Prop} (hm : m ≤ 6) (hs : sizeD nameD m k ≠ none) (hx : ExprP (m + 1) S w cs k) :
    Calls Tryd.prog 93 #[.agg cs.toArray] w fun e w' => e = .returned (.bool (safeD k)) ∧ Below w.heap.size w w' := by
  have h6 : (sizeD nameD 6 k).isSome = true := by
    have h : ∀ (j : Nat), m + j ≤ 6 → ∃ q, sizeD nameD (m + j) k = some q := by
      intro j
      induction j with
      | zero =>
        intro _
        cases hq : sizeD nameD m k with
        | none => exact absurd hq hs
        | some q => exact ⟨q, rfl⟩
      | succ j ih =>
        intro hj
        obtain ⟨q, hq⟩ := ih (by omega)
        exact ⟨q, sizeD_up _ _ _ hq⟩
    obtain ⟨q, hq⟩ := h (6 - m) (by omega)
    rw [show m + (6 - m) = 6 by omega] at hq
    rw [hq]; rfl
  have hv : safeD k = !anyE unsafeP m k := by
    rw [safeD, h6, anyE_fit hs hm (Nat.le_refl m)]; rfl
  rw [hv]
  exact l6Safe_any m cs k w hs (exprAt_fit hs (exprP_at hx))

theorem partF_out {m : Nat} {op n : Int} {s : ByteArray} {kids : List ExprD} (hs : sizeD nameD m (.mk op n s kids) ≠ none) (h11 : op ≠ 11) (hin : ¬ (3 ≤ op ∧ op ≤ 10)) : partF (.mk op n s kids) = .mk op n s kids := by
  obtain ⟨_, _, hh, _⟩ := size_parts hs
  have hh : headB nameD op n s kids.length = true := hh
  unfold partF
  refine if_pos ?_
  show kids.length = 0 ∨ op = 13 ∨ op = 12
  unfold headB at hh
  by_cases h1 : op = 1
  · rw [if_pos h1] at hh
    simp only [Bool.and_eq_true, beq_iff_eq] at hh
    exact .inl hh.2.2
  rw [if_neg h1] at hh
  by_cases h2 : op = 2
  · rw [if_pos h2] at hh
    simp only [Bool.and_eq_true, beq_iff_eq] at hh
    exact .inl hh.2.2
  rw [if_neg h2] at hh
  by_cases h13 : op = 13
  · exact .inr (.inl h13)
  rw [if_neg h13] at hh
  by_cases hl : 0 < lvl op
  · exact absurd (lvl_in hl) hin
  rw [if_neg hl] at hh
  by_cases h12 : op = 11 ∨ op = 12
  · rcases h12 with h | h
    · exact absurd h h11
    · exact .inr (.inr h)
  rw [if_neg h12] at hh
  cases hh

set_option maxRecDepth 100000 in
set_option maxHeartbeats 8000000 in
theorem l6Part_any (m : Nat) (S : Nat → Prop) (cs : List Value) (x : ExprD) (w : World) (hm6 : m ≤ 6) (hO : OpsAt w) (hK : KeysAt w) (hs : sizeD nameD m x ≠ none) (hx : ExprP m S w cs x) (hS : ∀ k, S k → k < w.heap.size) :
    Calls Tryd.prog 139 #[.agg cs.toArray] w fun e w' => ∃ cs', e = .returned (.agg (List.toArray cs')) ∧ ExprP m S w' cs' (partF x) ∧ Below w.heap.size w w' := by
  obtain ⟨xa, xc, rfl⟩ := exprP_form hx
  obtain ⟨R, hR⟩ : ∃ R, R = partF x := ⟨_, rfl⟩
  rw [← hR]
  have HR := Lib.hid hR
  have HT := Lib.hid (TwoE.start w x.op x.n x.name (.slice xa x.kids.length xc))
  have HS := Lib.hid hS
  have HI := Lib.hid (And.intro hs (And.intro hx (And.intro hO (And.intro hK hm6))))
  clear hs hx hS hO hK hR hm6
  obtain ⟨op, n, name, kids⟩ := x
  simp only [ExprD.op, ExprD.n, ExprD.name, ExprD.kids] at *
  show Calls _ _ #[.agg #[.int .i64 op, .int .i64 n, .string name, .slice xa kids.length xc]] w _
  go_enter Tryd.func139, Tryd.ntmps139
  go_upto_region 1 with fail
  generalize (w.alloc (.cells #[.int .i64 op, .int .i64 n, .string name, .slice xa kids.length xc] 29)).alloc (.cells #[.int .i64 0, .int .i64 0, .string ⟨#[]⟩, .slice none 0 0] 29) = W1 at HT ⊢
  have HW := Lib.hid (And.intro (exprP_below HT.out.below HI.out.2.1) (And.intro (HI.out.2.2.1.later HT.out.below) (HI.out.2.2.2.1.later HT.out.below)))
  have p0 := HT.out.p0
  have p1 := HT.out.p1
  have p2 := HT.out.p2
  have p3 := HT.out.p3
  obtain ⟨m, rfl⟩ : ∃ m', m = m' + 1 := by
    obtain ⟨m', h, _⟩ := size_parts HI.out.1
    exact ⟨m', h⟩
  have HLP := Lib.hid (exprP_kids HW.out.1)
  by_cases h11 : op = 11
  · as_aux_lemma =>
      obtain rfl : op = 11 := h11
      obtain ⟨a, hka⟩ := one_kid HI.out.1 rfl
      obtain rfl : kids = [a] := hka
      have HRF := Lib.hid (show R = (match foldNum (.mk 11 n name [a]) with | some n => numE n | none => partG (.mk 11 n name [a])) from HR.out)
      obtain ⟨kb, off, k, ka, kc, rfl, hk, hkR, c0, c1, c2, c3⟩ := listP_place HLP.out (fun _ _ h => exprP_form h) (i := 0) (by show 0 < 1; decide)
      obtain rfl : a = k := Option.some.inj hk
      rw [Nat.zero_mul, Nat.add_zero] at c0 c1 c2 c3
      have p3 : W1.cell? ⟨w.heap.size, 3, none⟩ = some (.slice (some ⟨kb, off, none⟩) 1 xc) := HT.out.p3
      have HFX := Lib.hid (show FX (m + 1) S 11 n name (.slice (some ⟨kb, off, none⟩) 1 xc) (.mk 11 n name [a]) a a ka kc ka kc W1 from ⟨HW.out.2.1, HW.out.2.2, HW.out.1, exprP_more hkR, exprP_more hkR⟩)
      have HA11 := Lib.hid (show a.op = 11 → a.kids.length = 1 from kid_one HI.out.1 (show a ∈ [a] by simp))
      have HA := Lib.hid (FP.single HT.out HFX.out)
      clear hk hkR
      go_upto_region 3 with fail
      generalize W1.alloc (.cells #[.int .i64 a.op, .int .i64 a.n, .string a.name, .slice ka a.kids.length kc] 29) = W2 at HA ⊢
      obtain ⟨bA, hbA⟩ : ∃ b, b = W1.heap.size := ⟨_, rfl⟩
      rw [← hbA] at HA ⊢
      have HF := Lib.hid HA.out.1
      have HX := Lib.hid HA.out.2
      clear HA hbA HFX p0 p1 p2 p3 c0 c1 c2 c3
      have p0 := HF.out.two.p0; have p1 := HF.out.two.p1; have p2 := HF.out.two.p2; have p3 := HF.out.two.p3
      have z0 := HF.out.two.z0; have z1 := HF.out.two.z1; have z2 := HF.out.two.z2; have z3 := HF.out.two.z3
      have f0 := HF.out.two.zf 0; have f1 := HF.out.two.zf 1; have f2 := HF.out.two.zf 2; have f3 := HF.out.two.zf 3
      have a0 := cell_of_row _ _ 0 _ _ _ HF.out.rA; have a1 := cell_of_row _ _ 1 _ _ _ HF.out.rA; have a2 := cell_of_row _ _ 2 _ _ _ HF.out.rA; have a3 := cell_of_row _ _ 3 _ _ _ HF.out.rA
      have b0 := cell_of_row _ _ 0 _ _ _ HF.out.rB; have b1 := cell_of_row _ _ 1 _ _ _ HF.out.rB; have b2 := cell_of_row _ _ 2 _ _ _ HF.out.rB; have b3 := cell_of_row _ _ 3 _ _ _ HF.out.rB
      simp only [List.getElem?_toArray, List.getElem?_cons_zero, List.getElem?_cons_succ] at a0 a1 a2 a3 b0 b1 b2 b3
      by_cases ha1 : a.op = 1
      · have ta : (a.op == 1) = true := by simpa using ha1
        have HFO := Lib.hid (show foldNum (.mk 11 n name [a]) = some (truthI (a.n == 0)) by rw [foldNum]; exact if_pos ⟨ha1, ha1⟩)
        clear ha1
        go_wp2_with fail
        refine (l5Truth_any (a.n == 0) _).mono ?_
        rintro e w4 ⟨rfl, rfl⟩
        obtain ⟨t, ht⟩ : ∃ t, t = truthI (a.n == 0) := ⟨_, rfl⟩
        rw [← ht] at HFO ⊢
        clear ht
        go_wp2_with fail
        refine (numS_any t _).mono ?_
        rintro e w4 ⟨rfl, hb⟩
        clear p0 p1 p2 p3 z0 z1 z2 z3 f0 f1 f2 f3 a0 a1 a2 a3 b0 b1 b2 b3
        replace HX := Lib.hid (HX.out.later hb)
        replace HF := Lib.hid (HF.out.later hb)
        clear hb
        have p0 := HF.out.two.p0; have p1 := HF.out.two.p1; have p2 := HF.out.two.p2; have p3 := HF.out.two.p3
        have z0 := HF.out.two.z0; have z1 := HF.out.two.z1; have z2 := HF.out.two.z2; have z3 := HF.out.two.z3
        have f0 := HF.out.two.zf 0; have f1 := HF.out.two.zf 1; have f2 := HF.out.two.zf 2; have f3 := HF.out.two.zf 3
        have a0 := cell_of_row _ _ 0 _ _ _ HF.out.rA; have a1 := cell_of_row _ _ 1 _ _ _ HF.out.rA; have a2 := cell_of_row _ _ 2 _ _ _ HF.out.rA; have a3 := cell_of_row _ _ 3 _ _ _ HF.out.rA
        have b0 := cell_of_row _ _ 0 _ _ _ HF.out.rB; have b1 := cell_of_row _ _ 1 _ _ _ HF.out.rB; have b2 := cell_of_row _ _ 2 _ _ _ HF.out.rB; have b3 := cell_of_row _ _ 3 _ _ _ HF.out.rB
        simp only [List.getElem?_toArray, List.getElem?_cons_zero, List.getElem?_cons_succ] at a0 a1 a2 a3 b0 b1 b2 b3
        have HZ := Lib.hid (HF.out.two.fin HS.out (FX.num (Nat.succ_ne_zero m) (t)))
        have HQ := Lib.hid (show R = _ from HRF.out.trans (by rw [HFO.out]))
        go_wp2
        refine bodyPost_ret (results_cell_row rfl _ _ (w.heap.size + 1) 29 _ (0, 0) _ rfl HZ.out.1 Tryd.underlying29 rfl (by kernel_rfl)) rfl ?_
        exact ⟨[_, _, _, _], rfl, by rw [HQ.out]; exact HZ.out.2.1, HZ.out.2.2⟩
      · have ta : (a.op == 1) = false := by simpa using ha1
        have HNO := Lib.hid (show foldNum (.mk 11 n name [a]) = none by rw [foldNum]; exact if_neg (fun h => ha1 h.1))
        have HG := Lib.hid (show R = (if a.op = 11 ∧ (a.kids.getD 0 default).op = 11 then a.kids.getD 0 default else .mk 11 n name [a]) from (show R = partG (.mk 11 n name [a]) by rw [HRF.out, HNO.out]))
        clear HNO HRF ha1
        by_cases h11 : a.op = 11
        · have hl1 : a.kids.length = 1 := HA11.out h11
          obtain ⟨jb, joff, j, ja, jc, rfl, hj, hjR, j0, j1, j2, j3⟩ := listP_place (exprP_kids HX.out.a) (fun _ _ h => exprP_form h) (i := 0) (by rw [hl1]; decide)
          have hjd : a.kids.getD 0 default = j := by rw [List.getD_eq_getElem?_getD, hj]; rfl
          rw [Nat.zero_mul, Nat.add_zero] at j0 j1 j2 j3
          rw [hjd] at HG
          rw [hl1] at a3
          rw [h11] at a0
          have HJ := Lib.hid (exprP_more hjR)
          clear hj hjR hjd hl1 ta b0 b1 b2 b3
          by_cases hj11 : j.op = 11
          · have HGT := Lib.hid (HG.out.trans (if_pos ⟨h11, hj11⟩))
            rw [hj11] at j0 HJ
            clear h11 hj11
            have HZ := Lib.hid (HF.out.two.fin HS.out HJ.out)
            have HQ := Lib.hid (show R = _ from HGT.out)
            go_wp2
            refine bodyPost_ret (results_cell_row rfl _ _ (w.heap.size + 1) 29 _ (0, 0) _ rfl HZ.out.1 Tryd.underlying29 rfl (by kernel_rfl)) rfl ?_
            exact ⟨[_, _, _, _], rfl, by rw [HQ.out]; exact HZ.out.2.1, HZ.out.2.2⟩
          · have HGT := Lib.hid (HG.out.trans (if_neg (fun h => hj11 h.2)))
            have tj : (j.op == 11) = false := by simpa using hj11
            clear h11 hj11
            have HZ := Lib.hid (HF.out.two.fin HS.out HX.out.x)
            have HQ := Lib.hid (show R = _ from HGT.out)
            go_wp2
            refine bodyPost_ret (results_cell_row rfl _ _ (w.heap.size + 1) 29 _ (0, 0) _ rfl HZ.out.1 Tryd.underlying29 rfl (by kernel_rfl)) rfl ?_
            exact ⟨[_, _, _, _], rfl, by rw [HQ.out]; exact HZ.out.2.1, HZ.out.2.2⟩
        · have HGT := Lib.hid (HG.out.trans (if_neg (fun h => h11 h.1)))
          have t1 : (a.op == 11) = false := by simpa using h11
          clear h11
          have HZ := Lib.hid (HF.out.two.fin HS.out HX.out.x)
          have HQ := Lib.hid (show R = _ from HGT.out)
          go_wp2
          refine bodyPost_ret (results_cell_row rfl _ _ (w.heap.size + 1) 29 _ (0, 0) _ rfl HZ.out.1 Tryd.underlying29 rfl (by kernel_rfl)) rfl ?_
          exact ⟨[_, _, _, _], rfl, by rw [HQ.out]; exact HZ.out.2.1, HZ.out.2.2⟩
  · by_cases hin : 3 ≤ op ∧ op ≤ 10
    · obtain ⟨a, b, hkab⟩ := two_kids HI.out.1 hin
      obtain rfl : kids = [a, b] := hkab
      have HRF := Lib.hid (show R = (match foldNum (.mk op n name [a, b]) with | some n => numE n | none => partG (.mk op n name [a, b])) by rw [HR.out, partF]; exact if_neg (by show ¬ ((2 : Nat) = 0 ∨ op = 13 ∨ op = 12); omega))
      obtain ⟨kb, off, k, ka, kc, rfl, hk, hkR, c0, c1, c2, c3⟩ := listP_place HLP.out (fun _ _ h => exprP_form h) (i := 0) (by show 0 < 2; decide)
      obtain rfl : a = k := Option.some.inj hk
      obtain ⟨kb', off', k, qa, qc, hq, hk', hqR, d0, d1, d2, d3⟩ := listP_place HLP.out (fun _ _ h => exprP_form h) (i := 1) (by show 1 < 2; decide)
      obtain rfl : b = k := Option.some.inj hk'
      cases hq
      rw [Nat.zero_mul, Nat.add_zero] at c0 c1 c2 c3
      rw [Nat.one_mul] at d0 d1 d2 d3
      have p3 : W1.cell? ⟨w.heap.size, 3, none⟩ = some (.slice (some ⟨kb, off, none⟩) 2 xc) := HT.out.p3
      have HFX := Lib.hid (show FX (m + 1) S op n name (.slice (some ⟨kb, off, none⟩) 2 xc) (.mk op n name [a, b]) a b ka kc qa qc W1 from ⟨HW.out.2.1, HW.out.2.2, HW.out.1, exprP_more hkR, exprP_more hqR⟩)
      have HKS := Lib.hid (And.intro (kid_valid HI.out.1 (show a ∈ [a, b] by simp)) (And.intro (kid_valid HI.out.1 (show b ∈ [a, b] by simp)) (And.intro hkR hqR)))
      have HA := Lib.hid (FP.pair HT.out HFX.out)
      have HIN := Lib.hid (show inE 3 op 10 = true by simp [inE, hin.1, hin.2])
      have HOP := Lib.hid hin
      have t11 : (op == 11) = false := by simpa using h11
      have HN11 := Lib.hid h11
      clear hk hk' hkR hqR hin h11
      go_wp2_with fail
      refine (l1InE_is HIN.out W1).mono ?_
      rintro e w9 ⟨rfl, rfl⟩
      have HBA := Lib.hid ((Below.refl w9.heap.size w9).alloc (Nat.le_refl _) (.cells #[.int .i64 a.op, .int .i64 a.n, .string a.name, .slice ka a.kids.length kc] 29))
      have Q0 := cell_later HBA.out p3
      have D0 := cell_later HBA.out d0
      have D1 := cell_later HBA.out d1
      have D2 := cell_later HBA.out d2
      have D3 := cell_later HBA.out d3
      go_upto_region 12 with fail
      obtain ⟨bA, hbA⟩ : ∃ b, b = w9.heap.size := ⟨_, rfl⟩
      generalize (w9.alloc (.cells #[.int .i64 a.op, .int .i64 a.n, .string a.name, .slice ka a.kids.length kc] 29)).alloc (.cells #[.int .i64 b.op, .int .i64 b.n, .string b.name, .slice qa b.kids.length qc] 29) = W2 at HA ⊢
      rw [← hbA] at HA ⊢
      have HF := Lib.hid HA.out.1
      have HX := Lib.hid HA.out.2
      clear HA hbA HFX HBA Q0 D0 D1 D2 D3 p0 p1 p2 p3 c0 c1 c2 c3 d0 d1 d2 d3
      have p0 := HF.out.two.p0; have p1 := HF.out.two.p1; have p2 := HF.out.two.p2; have p3 := HF.out.two.p3
      have z0 := HF.out.two.z0; have z1 := HF.out.two.z1; have z2 := HF.out.two.z2; have z3 := HF.out.two.z3
      have f0 := HF.out.two.zf 0; have f1 := HF.out.two.zf 1; have f2 := HF.out.two.zf 2; have f3 := HF.out.two.zf 3
      have a0 := cell_of_row _ _ 0 _ _ _ HF.out.rA; have a1 := cell_of_row _ _ 1 _ _ _ HF.out.rA; have a2 := cell_of_row _ _ 2 _ _ _ HF.out.rA; have a3 := cell_of_row _ _ 3 _ _ _ HF.out.rA
      have b0 := cell_of_row _ _ 0 _ _ _ HF.out.rB; have b1 := cell_of_row _ _ 1 _ _ _ HF.out.rB; have b2 := cell_of_row _ _ 2 _ _ _ HF.out.rB; have b3 := cell_of_row _ _ 3 _ _ _ HF.out.rB
      simp only [List.getElem?_toArray, List.getElem?_cons_zero, List.getElem?_cons_succ] at a0 a1 a2 a3 b0 b1 b2 b3
      go_cut [65] (fun v wx => wx = W2 ∧ v = .bool ((a.op == 1) && (b.op == 1)))
      case first =>
        as_aux_lemma =>
          cases ta : (a.op == 1) with
          | false =>
            go_wp2_with fail
            go_meet
            exact ⟨rfl, by rw [ta]; rfl⟩
          | true =>
            cases tb : (b.op == 1) with
            | false =>
              go_wp2_with fail
              go_meet
              exact ⟨rfl, by rw [ta, tb]; rfl⟩
            | true =>
              go_wp2_with fail
              go_meet
              exact ⟨rfl, by rw [ta, tb]; rfl⟩
      case rest =>
        obtain ⟨rfl, rfl⟩ := hcut
        go_upto_if 65 with fail
        go_cut [6] (fun v wx => Hid (foldNum (.mk op n name [a, b]) = none) ∧ Hid (FP w op n name a b (.slice (some ⟨kb, off, none⟩) 2 xc) ka kc qa qc bA (bA + 1) wx ∧ FX (m + 1) S op n name (.slice (some ⟨kb, off, none⟩) 2 xc) (.mk op n name [a, b]) a b ka kc qa qc wx))
        case first =>
          as_aux_lemma =>
            cases hbb : ((a.op == 1) && (b.op == 1)) with
            | true =>
              have hab : a.op = 1 ∧ b.op = 1 := by simpa using hbb
              have HFO := Lib.hid (show foldNum (.mk op n name [a, b]) = arithD op a.n b.n by rw [foldNum]; exact if_pos hab)
              obtain ⟨m2, rfl⟩ : ∃ m2, m = m2 + 1 := by
                obtain ⟨m2, h, _⟩ := size_parts HKS.out.1
                exact ⟨m2, h⟩
              have HEV := Lib.hid (l5Eval_any [] [] none none 0 0 0 (by omega) ⟨rfl, rfl⟩ rfl (m2 + 1 + 1) _ _ (.mk op n name [a, b]) wc (exprP_at HX.out.x) HI.out.1 (nums_bad HI.out.1 HOP.out hab.1 hab.2) ⟨⟨rfl, .inl rfl⟩, ⟨rfl, .inl rfl⟩⟩)
              rw [eval_nums hab.1 hab.2 HOP.out] at HEV
              clear hab hbb
              cases har : arithD op a.n b.n with
              | none =>
                rw [har] at HEV HFO
                clear har
                go_wp2_with fail
                refine HEV.out.mono ?_
                rintro e w4 ⟨he, hb⟩
                obtain rfl : e = .returned (.tuple #[.int .i64 0, .int .i64 1]) := he
                have HF2 := Lib.hid (And.intro (HF.out.later hb) (HX.out.later hb))
                clear hb
                go_wp2
                go_meet
                exact ⟨HFO, HF2⟩
              | some r =>
                rw [har] at HEV HFO
                clear har
                go_wp2_with fail
                refine HEV.out.mono ?_
                rintro e w4 ⟨he, hb⟩
                obtain rfl : e = .returned (.tuple #[.int .i64 r, .int .i64 0]) := he
                clear p0 p1 p2 p3 z0 z1 z2 z3 f0 f1 f2 f3 a0 a1 a2 a3 b0 b1 b2 b3
                replace HX := Lib.hid (HX.out.later hb)
                replace HF := Lib.hid (HF.out.later hb)
                clear hb
                have p0 := HF.out.two.p0; have p1 := HF.out.two.p1; have p2 := HF.out.two.p2; have p3 := HF.out.two.p3
                have z0 := HF.out.two.z0; have z1 := HF.out.two.z1; have z2 := HF.out.two.z2; have z3 := HF.out.two.z3
                have f0 := HF.out.two.zf 0; have f1 := HF.out.two.zf 1; have f2 := HF.out.two.zf 2; have f3 := HF.out.two.zf 3
                have a0 := cell_of_row _ _ 0 _ _ _ HF.out.rA; have a1 := cell_of_row _ _ 1 _ _ _ HF.out.rA; have a2 := cell_of_row _ _ 2 _ _ _ HF.out.rA; have a3 := cell_of_row _ _ 3 _ _ _ HF.out.rA
                have b0 := cell_of_row _ _ 0 _ _ _ HF.out.rB; have b1 := cell_of_row _ _ 1 _ _ _ HF.out.rB; have b2 := cell_of_row _ _ 2 _ _ _ HF.out.rB; have b3 := cell_of_row _ _ 3 _ _ _ HF.out.rB
                simp only [List.getElem?_toArray, List.getElem?_cons_zero, List.getElem?_cons_succ] at a0 a1 a2 a3 b0 b1 b2 b3
                go_wp2_with fail
                refine (numS_any r _).mono ?_
                rintro e w4 ⟨rfl, hb⟩
                clear p0 p1 p2 p3 z0 z1 z2 z3 f0 f1 f2 f3 a0 a1 a2 a3 b0 b1 b2 b3
                replace HX := Lib.hid (HX.out.later hb)
                replace HF := Lib.hid (HF.out.later hb)
                clear hb
                have p0 := HF.out.two.p0; have p1 := HF.out.two.p1; have p2 := HF.out.two.p2; have p3 := HF.out.two.p3
                have z0 := HF.out.two.z0; have z1 := HF.out.two.z1; have z2 := HF.out.two.z2; have z3 := HF.out.two.z3
                have f0 := HF.out.two.zf 0; have f1 := HF.out.two.zf 1; have f2 := HF.out.two.zf 2; have f3 := HF.out.two.zf 3
                have a0 := cell_of_row _ _ 0 _ _ _ HF.out.rA; have a1 := cell_of_row _ _ 1 _ _ _ HF.out.rA; have a2 := cell_of_row _ _ 2 _ _ _ HF.out.rA; have a3 := cell_of_row _ _ 3 _ _ _ HF.out.rA
                have b0 := cell_of_row _ _ 0 _ _ _ HF.out.rB; have b1 := cell_of_row _ _ 1 _ _ _ HF.out.rB; have b2 := cell_of_row _ _ 2 _ _ _ HF.out.rB; have b3 := cell_of_row _ _ 3 _ _ _ HF.out.rB
                simp only [List.getElem?_toArray, List.getElem?_cons_zero, List.getElem?_cons_succ] at a0 a1 a2 a3 b0 b1 b2 b3
                have HZ := Lib.hid (HF.out.two.fin HS.out (FX.num (Nat.succ_ne_zero (m2 + 1)) r))
                have HQ := Lib.hid (show R = _ from HRF.out.trans (by rw [HFO.out]))
                go_wp2
                refine bodyPost_ret (results_cell_row rfl _ _ (w.heap.size + 1) 29 _ (0, 0) _ rfl HZ.out.1 Tryd.underlying29 rfl (by kernel_rfl)) rfl ?_
                exact ⟨[_, _, _, _], rfl, by rw [HQ.out]; exact HZ.out.2.1, HZ.out.2.2⟩
            | false =>
              have HFO := Lib.hid (show foldNum (.mk op n name [a, b]) = none by rw [foldNum]; exact if_neg (fun h => not_both h hbb))
              clear hbb
              go_wp2
              go_meet
              exact ⟨HFO, Lib.hid ⟨HF.out, HX.out⟩⟩
        case rest =>
          obtain ⟨HNO, HFF⟩ := hcut
          have HG := Lib.hid (show R = partG (.mk op n name [a, b]) by rw [HRF.out, HNO.out])
          replace HF := Lib.hid HFF.out.1
          replace HX := Lib.hid HFF.out.2
          clear HNO HRF HFF p0 p1 p2 p3 z0 z1 z2 z3 f0 f1 f2 f3 a0 a1 a2 a3 b0 b1 b2 b3
          have p0 := HF.out.two.p0; have p1 := HF.out.two.p1; have p2 := HF.out.two.p2; have p3 := HF.out.two.p3
          have z0 := HF.out.two.z0; have z1 := HF.out.two.z1; have z2 := HF.out.two.z2; have z3 := HF.out.two.z3
          have f0 := HF.out.two.zf 0; have f1 := HF.out.two.zf 1; have f2 := HF.out.two.zf 2; have f3 := HF.out.two.zf 3
          have a0 := cell_of_row _ _ 0 _ _ _ HF.out.rA; have a1 := cell_of_row _ _ 1 _ _ _ HF.out.rA; have a2 := cell_of_row _ _ 2 _ _ _ HF.out.rA; have a3 := cell_of_row _ _ 3 _ _ _ HF.out.rA
          have b0 := cell_of_row _ _ 0 _ _ _ HF.out.rB; have b1 := cell_of_row _ _ 1 _ _ _ HF.out.rB; have b2 := cell_of_row _ _ 2 _ _ _ HF.out.rB; have b3 := cell_of_row _ _ 3 _ _ _ HF.out.rB
          simp only [List.getElem?_toArray, List.getElem?_cons_zero, List.getElem?_cons_succ] at a0 a1 a2 a3 b0 b1 b2 b3
          replace HG := Lib.hid (HG.out.trans (partG_as HN11.out))
          go_upto_region 16 with fail
          go_cut [75] (fun v wx => v = .bool ((op == 10) && isNumB a 0) ∧ Hid (FP w op n name a b (.slice (some ⟨kb, off, none⟩) 2 xc) ka kc qa qc bA (bA + 1) wx ∧ FX (m + 1) S op n name (.slice (some ⟨kb, off, none⟩) 2 xc) (.mk op n name [a, b]) a b ka kc qa qc wx))
          case first =>
            as_aux_lemma =>
              cases t10 : (op == 10) with
              | true =>
                cases hn : isNumB a 0 with
                | true =>
                  have HE := Lib.hid (show ((a.op == 1) && (a.n == 0)) = true from hn)
                  go_wp2_with fail
                  refine (isNumS_any _ _ _ _ _ _ true HE.out.symm).mono ?_
                  rintro e w4 ⟨rfl, hb⟩
                  clear p0 p1 p2 p3 z0 z1 z2 z3 f0 f1 f2 f3 a0 a1 a2 a3 b0 b1 b2 b3
                  replace HX := Lib.hid (HX.out.later hb)
                  replace HF := Lib.hid (HF.out.later hb)
                  clear hb
                  have p0 := HF.out.two.p0; have p1 := HF.out.two.p1; have p2 := HF.out.two.p2; have p3 := HF.out.two.p3
                  have z0 := HF.out.two.z0; have z1 := HF.out.two.z1; have z2 := HF.out.two.z2; have z3 := HF.out.two.z3
                  have f0 := HF.out.two.zf 0; have f1 := HF.out.two.zf 1; have f2 := HF.out.two.zf 2; have f3 := HF.out.two.zf 3
                  have a0 := cell_of_row _ _ 0 _ _ _ HF.out.rA; have a1 := cell_of_row _ _ 1 _ _ _ HF.out.rA; have a2 := cell_of_row _ _ 2 _ _ _ HF.out.rA; have a3 := cell_of_row _ _ 3 _ _ _ HF.out.rA
                  have b0 := cell_of_row _ _ 0 _ _ _ HF.out.rB; have b1 := cell_of_row _ _ 1 _ _ _ HF.out.rB; have b2 := cell_of_row _ _ 2 _ _ _ HF.out.rB; have b3 := cell_of_row _ _ 3 _ _ _ HF.out.rB
                  simp only [List.getElem?_toArray, List.getElem?_cons_zero, List.getElem?_cons_succ] at a0 a1 a2 a3 b0 b1 b2 b3
                  have hz : isNumB a 0 = true := HE.out
                  go_wp2_with fail
                  go_meet
                  exact ⟨by rw [t10, hz]; rfl, Lib.hid ⟨HF.out, HX.out⟩⟩
                | false =>
                  have HE := Lib.hid (show ((a.op == 1) && (a.n == 0)) = false from hn)
                  go_wp2_with fail
                  refine (isNumS_any _ _ _ _ _ _ false HE.out.symm).mono ?_
                  rintro e w4 ⟨rfl, hb⟩
                  clear p0 p1 p2 p3 z0 z1 z2 z3 f0 f1 f2 f3 a0 a1 a2 a3 b0 b1 b2 b3
                  replace HX := Lib.hid (HX.out.later hb)
                  replace HF := Lib.hid (HF.out.later hb)
                  clear hb
                  have p0 := HF.out.two.p0; have p1 := HF.out.two.p1; have p2 := HF.out.two.p2; have p3 := HF.out.two.p3
                  have z0 := HF.out.two.z0; have z1 := HF.out.two.z1; have z2 := HF.out.two.z2; have z3 := HF.out.two.z3
                  have f0 := HF.out.two.zf 0; have f1 := HF.out.two.zf 1; have f2 := HF.out.two.zf 2; have f3 := HF.out.two.zf 3
                  have a0 := cell_of_row _ _ 0 _ _ _ HF.out.rA; have a1 := cell_of_row _ _ 1 _ _ _ HF.out.rA; have a2 := cell_of_row _ _ 2 _ _ _ HF.out.rA; have a3 := cell_of_row _ _ 3 _ _ _ HF.out.rA
                  have b0 := cell_of_row _ _ 0 _ _ _ HF.out.rB; have b1 := cell_of_row _ _ 1 _ _ _ HF.out.rB; have b2 := cell_of_row _ _ 2 _ _ _ HF.out.rB; have b3 := cell_of_row _ _ 3 _ _ _ HF.out.rB
                  simp only [List.getElem?_toArray, List.getElem?_cons_zero, List.getElem?_cons_succ] at a0 a1 a2 a3 b0 b1 b2 b3
                  have hz : isNumB a 0 = false := HE.out
                  go_wp2_with fail
                  go_meet
                  exact ⟨by rw [t10, hz]; rfl, Lib.hid ⟨HF.out, HX.out⟩⟩
              | false =>
                go_wp2_with fail
                go_meet
                exact ⟨by rw [t10]; rfl, Lib.hid ⟨HF.out, HX.out⟩⟩
          case rest =>
            obtain ⟨rfl, HFF⟩ := hcut
            replace HF := Lib.hid HFF.out.1
            replace HX := Lib.hid HFF.out.2
            clear HFF
            clear p0 p1 p2 p3 z0 z1 z2 z3 f0 f1 f2 f3 a0 a1 a2 a3 b0 b1 b2 b3
            have p0 := HF.out.two.p0; have p1 := HF.out.two.p1; have p2 := HF.out.two.p2; have p3 := HF.out.two.p3
            have z0 := HF.out.two.z0; have z1 := HF.out.two.z1; have z2 := HF.out.two.z2; have z3 := HF.out.two.z3
            have f0 := HF.out.two.zf 0; have f1 := HF.out.two.zf 1; have f2 := HF.out.two.zf 2; have f3 := HF.out.two.zf 3
            have a0 := cell_of_row _ _ 0 _ _ _ HF.out.rA; have a1 := cell_of_row _ _ 1 _ _ _ HF.out.rA; have a2 := cell_of_row _ _ 2 _ _ _ HF.out.rA; have a3 := cell_of_row _ _ 3 _ _ _ HF.out.rA
            have b0 := cell_of_row _ _ 0 _ _ _ HF.out.rB; have b1 := cell_of_row _ _ 1 _ _ _ HF.out.rB; have b2 := cell_of_row _ _ 2 _ _ _ HF.out.rB; have b3 := cell_of_row _ _ 3 _ _ _ HF.out.rB
            simp only [List.getElem?_toArray, List.getElem?_cons_zero, List.getElem?_cons_succ] at a0 a1 a2 a3 b0 b1 b2 b3
            cases hd : ((op == 10) && isNumB a 0) with
            | true =>
              have HGT := Lib.hid HG.out
              rw [hd] at HGT
              clear hd
              go_wp2_with fail
              refine (numS_any 0 _).mono ?_
              rintro e w4 ⟨rfl, hb⟩
              clear p0 p1 p2 p3 z0 z1 z2 z3 f0 f1 f2 f3 a0 a1 a2 a3 b0 b1 b2 b3
              replace HX := Lib.hid (HX.out.later hb)
              replace HF := Lib.hid (HF.out.later hb)
              clear hb
              have p0 := HF.out.two.p0; have p1 := HF.out.two.p1; have p2 := HF.out.two.p2; have p3 := HF.out.two.p3
              have z0 := HF.out.two.z0; have z1 := HF.out.two.z1; have z2 := HF.out.two.z2; have z3 := HF.out.two.z3
              have f0 := HF.out.two.zf 0; have f1 := HF.out.two.zf 1; have f2 := HF.out.two.zf 2; have f3 := HF.out.two.zf 3
              have a0 := cell_of_row _ _ 0 _ _ _ HF.out.rA; have a1 := cell_of_row _ _ 1 _ _ _ HF.out.rA; have a2 := cell_of_row _ _ 2 _ _ _ HF.out.rA; have a3 := cell_of_row _ _ 3 _ _ _ HF.out.rA
              have b0 := cell_of_row _ _ 0 _ _ _ HF.out.rB; have b1 := cell_of_row _ _ 1 _ _ _ HF.out.rB; have b2 := cell_of_row _ _ 2 _ _ _ HF.out.rB; have b3 := cell_of_row _ _ 3 _ _ _ HF.out.rB
              simp only [List.getElem?_toArray, List.getElem?_cons_zero, List.getElem?_cons_succ] at a0 a1 a2 a3 b0 b1 b2 b3
              have HZ := Lib.hid (HF.out.two.fin HS.out (FX.num (Nat.succ_ne_zero m) (0)))
              have HQ := Lib.hid (show R = _ from HGT.out)
              go_wp2
              refine bodyPost_ret (results_cell_row rfl _ _ (w.heap.size + 1) 29 _ (0, 0) _ rfl HZ.out.1 Tryd.underlying29 rfl (by kernel_rfl)) rfl ?_
              exact ⟨[_, _, _, _], rfl, by rw [HQ.out]; exact HZ.out.2.1, HZ.out.2.2⟩
            | false =>
              replace HG := Lib.hid HG.out
              rw [hd] at HG
              clear hd
              go_upto_region 18 with fail
              go_cut [84] (fun v wx => v = .bool (isNumB b 0 && ((op == 3) || (op == 4))) ∧ Hid (FP w op n name a b (.slice (some ⟨kb, off, none⟩) 2 xc) ka kc qa qc bA (bA + 1) wx ∧ FX (m + 1) S op n name (.slice (some ⟨kb, off, none⟩) 2 xc) (.mk op n name [a, b]) a b ka kc qa qc wx))
              case first =>
                as_aux_lemma =>
                  cases hn : isNumB b 0 with
                  | true =>
                    have HE := Lib.hid (show ((b.op == 1) && (b.n == 0)) = true from hn)
                    go_wp2_with fail
                    refine (isNumS_any _ _ _ _ _ _ true HE.out.symm).mono ?_
                    rintro e w4 ⟨rfl, hb⟩
                    clear p0 p1 p2 p3 z0 z1 z2 z3 f0 f1 f2 f3 a0 a1 a2 a3 b0 b1 b2 b3
                    replace HX := Lib.hid (HX.out.later hb)
                    replace HF := Lib.hid (HF.out.later hb)
                    clear hb
                    have p0 := HF.out.two.p0; have p1 := HF.out.two.p1; have p2 := HF.out.two.p2; have p3 := HF.out.two.p3
                    have z0 := HF.out.two.z0; have z1 := HF.out.two.z1; have z2 := HF.out.two.z2; have z3 := HF.out.two.z3
                    have f0 := HF.out.two.zf 0; have f1 := HF.out.two.zf 1; have f2 := HF.out.two.zf 2; have f3 := HF.out.two.zf 3
                    have a0 := cell_of_row _ _ 0 _ _ _ HF.out.rA; have a1 := cell_of_row _ _ 1 _ _ _ HF.out.rA; have a2 := cell_of_row _ _ 2 _ _ _ HF.out.rA; have a3 := cell_of_row _ _ 3 _ _ _ HF.out.rA
                    have b0 := cell_of_row _ _ 0 _ _ _ HF.out.rB; have b1 := cell_of_row _ _ 1 _ _ _ HF.out.rB; have b2 := cell_of_row _ _ 2 _ _ _ HF.out.rB; have b3 := cell_of_row _ _ 3 _ _ _ HF.out.rB
                    simp only [List.getElem?_toArray, List.getElem?_cons_zero, List.getElem?_cons_succ] at a0 a1 a2 a3 b0 b1 b2 b3
                    have hz : isNumB b 0 = true := HE.out
                    cases t3 : (op == 3) with
                    | true =>
                      cases t4 : (op == 4) with
                      | true =>
                        go_wp2_with fail
                        go_meet
                        exact ⟨by rw [hz, t3, t4]; rfl, Lib.hid ⟨HF.out, HX.out⟩⟩
                      | false =>
                        go_wp2_with fail
                        go_meet
                        exact ⟨by rw [hz, t3, t4]; rfl, Lib.hid ⟨HF.out, HX.out⟩⟩
                    | false =>
                      cases t4 : (op == 4) with
                      | true =>
                        go_wp2_with fail
                        go_meet
                        exact ⟨by rw [hz, t3, t4]; rfl, Lib.hid ⟨HF.out, HX.out⟩⟩
                      | false =>
                        go_wp2_with fail
                        go_meet
                        exact ⟨by rw [hz, t3, t4]; rfl, Lib.hid ⟨HF.out, HX.out⟩⟩
                  | false =>
                    have HE := Lib.hid (show ((b.op == 1) && (b.n == 0)) = false from hn)
                    go_wp2_with fail
                    refine (isNumS_any _ _ _ _ _ _ false HE.out.symm).mono ?_
                    rintro e w4 ⟨rfl, hb⟩
                    clear p0 p1 p2 p3 z0 z1 z2 z3 f0 f1 f2 f3 a0 a1 a2 a3 b0 b1 b2 b3
                    replace HX := Lib.hid (HX.out.later hb)
                    replace HF := Lib.hid (HF.out.later hb)
                    clear hb
                    have p0 := HF.out.two.p0; have p1 := HF.out.two.p1; have p2 := HF.out.two.p2; have p3 := HF.out.two.p3
                    have z0 := HF.out.two.z0; have z1 := HF.out.two.z1; have z2 := HF.out.two.z2; have z3 := HF.out.two.z3
                    have f0 := HF.out.two.zf 0; have f1 := HF.out.two.zf 1; have f2 := HF.out.two.zf 2; have f3 := HF.out.two.zf 3
                    have a0 := cell_of_row _ _ 0 _ _ _ HF.out.rA; have a1 := cell_of_row _ _ 1 _ _ _ HF.out.rA; have a2 := cell_of_row _ _ 2 _ _ _ HF.out.rA; have a3 := cell_of_row _ _ 3 _ _ _ HF.out.rA
                    have b0 := cell_of_row _ _ 0 _ _ _ HF.out.rB; have b1 := cell_of_row _ _ 1 _ _ _ HF.out.rB; have b2 := cell_of_row _ _ 2 _ _ _ HF.out.rB; have b3 := cell_of_row _ _ 3 _ _ _ HF.out.rB
                    simp only [List.getElem?_toArray, List.getElem?_cons_zero, List.getElem?_cons_succ] at a0 a1 a2 a3 b0 b1 b2 b3
                    have hz : isNumB b 0 = false := HE.out
                    go_wp2_with fail
                    go_meet
                    exact ⟨by rw [hz]; rfl, Lib.hid ⟨HF.out, HX.out⟩⟩
              case rest =>
                obtain ⟨rfl, HFF⟩ := hcut
                replace HF := Lib.hid HFF.out.1
                replace HX := Lib.hid HFF.out.2
                clear HFF
                clear p0 p1 p2 p3 z0 z1 z2 z3 f0 f1 f2 f3 a0 a1 a2 a3 b0 b1 b2 b3
                have p0 := HF.out.two.p0; have p1 := HF.out.two.p1; have p2 := HF.out.two.p2; have p3 := HF.out.two.p3
                have z0 := HF.out.two.z0; have z1 := HF.out.two.z1; have z2 := HF.out.two.z2; have z3 := HF.out.two.z3
                have f0 := HF.out.two.zf 0; have f1 := HF.out.two.zf 1; have f2 := HF.out.two.zf 2; have f3 := HF.out.two.zf 3
                have a0 := cell_of_row _ _ 0 _ _ _ HF.out.rA; have a1 := cell_of_row _ _ 1 _ _ _ HF.out.rA; have a2 := cell_of_row _ _ 2 _ _ _ HF.out.rA; have a3 := cell_of_row _ _ 3 _ _ _ HF.out.rA
                have b0 := cell_of_row _ _ 0 _ _ _ HF.out.rB; have b1 := cell_of_row _ _ 1 _ _ _ HF.out.rB; have b2 := cell_of_row _ _ 2 _ _ _ HF.out.rB; have b3 := cell_of_row _ _ 3 _ _ _ HF.out.rB
                simp only [List.getElem?_toArray, List.getElem?_cons_zero, List.getElem?_cons_succ] at a0 a1 a2 a3 b0 b1 b2 b3
                go_upto_if 84 with fail
                go_cut [84] (fun v wx => v = .bool ((isNumB b 0 && ((op == 3) || (op == 4))) || (isNumB b 1 && ((op == 5) || (op == 6)))) ∧ Hid (FP w op n name a b (.slice (some ⟨kb, off, none⟩) 2 xc) ka kc qa qc bA (bA + 1) wx ∧ FX (m + 1) S op n name (.slice (some ⟨kb, off, none⟩) 2 xc) (.mk op n name [a, b]) a b ka kc qa qc wx))
                case first =>
                  as_aux_lemma =>
                    cases he1 : (isNumB b 0 && ((op == 3) || (op == 4))) with
                    | true =>
                      go_wp2_with fail
                      go_meet
                      exact ⟨by rw [he1]; rfl, Lib.hid ⟨HF.out, HX.out⟩⟩
                    | false =>
                      cases hn : isNumB b 1 with
                      | true =>
                        have HE := Lib.hid (show ((b.op == 1) && (b.n == 1)) = true from hn)
                        go_wp2_with fail
                        refine (isNumS_any _ _ _ _ _ _ true HE.out.symm).mono ?_
                        rintro e w4 ⟨rfl, hb⟩
                        clear p0 p1 p2 p3 z0 z1 z2 z3 f0 f1 f2 f3 a0 a1 a2 a3 b0 b1 b2 b3
                        replace HX := Lib.hid (HX.out.later hb)
                        replace HF := Lib.hid (HF.out.later hb)
                        clear hb
                        have p0 := HF.out.two.p0; have p1 := HF.out.two.p1; have p2 := HF.out.two.p2; have p3 := HF.out.two.p3
                        have z0 := HF.out.two.z0; have z1 := HF.out.two.z1; have z2 := HF.out.two.z2; have z3 := HF.out.two.z3
                        have f0 := HF.out.two.zf 0; have f1 := HF.out.two.zf 1; have f2 := HF.out.two.zf 2; have f3 := HF.out.two.zf 3
                        have a0 := cell_of_row _ _ 0 _ _ _ HF.out.rA; have a1 := cell_of_row _ _ 1 _ _ _ HF.out.rA; have a2 := cell_of_row _ _ 2 _ _ _ HF.out.rA; have a3 := cell_of_row _ _ 3 _ _ _ HF.out.rA
                        have b0 := cell_of_row _ _ 0 _ _ _ HF.out.rB; have b1 := cell_of_row _ _ 1 _ _ _ HF.out.rB; have b2 := cell_of_row _ _ 2 _ _ _ HF.out.rB; have b3 := cell_of_row _ _ 3 _ _ _ HF.out.rB
                        simp only [List.getElem?_toArray, List.getElem?_cons_zero, List.getElem?_cons_succ] at a0 a1 a2 a3 b0 b1 b2 b3
                        have hz : isNumB b 1 = true := HE.out
                        cases t5 : (op == 5) with
                        | true =>
                          cases t6 : (op == 6) with
                          | true =>
                            go_wp2_with fail
                            go_meet
                            exact ⟨by rw [he1, hz, t5, t6]; rfl, Lib.hid ⟨HF.out, HX.out⟩⟩
                          | false =>
                            go_wp2_with fail
                            go_meet
                            exact ⟨by rw [he1, hz, t5, t6]; rfl, Lib.hid ⟨HF.out, HX.out⟩⟩
                        | false =>
                          cases t6 : (op == 6) with
                          | true =>
                            go_wp2_with fail
                            go_meet
                            exact ⟨by rw [he1, hz, t5, t6]; rfl, Lib.hid ⟨HF.out, HX.out⟩⟩
                          | false =>
                            go_wp2_with fail
                            go_meet
                            exact ⟨by rw [he1, hz, t5, t6]; rfl, Lib.hid ⟨HF.out, HX.out⟩⟩
                      | false =>
                        have HE := Lib.hid (show ((b.op == 1) && (b.n == 1)) = false from hn)
                        go_wp2_with fail
                        refine (isNumS_any _ _ _ _ _ _ false HE.out.symm).mono ?_
                        rintro e w4 ⟨rfl, hb⟩
                        clear p0 p1 p2 p3 z0 z1 z2 z3 f0 f1 f2 f3 a0 a1 a2 a3 b0 b1 b2 b3
                        replace HX := Lib.hid (HX.out.later hb)
                        replace HF := Lib.hid (HF.out.later hb)
                        clear hb
                        have p0 := HF.out.two.p0; have p1 := HF.out.two.p1; have p2 := HF.out.two.p2; have p3 := HF.out.two.p3
                        have z0 := HF.out.two.z0; have z1 := HF.out.two.z1; have z2 := HF.out.two.z2; have z3 := HF.out.two.z3
                        have f0 := HF.out.two.zf 0; have f1 := HF.out.two.zf 1; have f2 := HF.out.two.zf 2; have f3 := HF.out.two.zf 3
                        have a0 := cell_of_row _ _ 0 _ _ _ HF.out.rA; have a1 := cell_of_row _ _ 1 _ _ _ HF.out.rA; have a2 := cell_of_row _ _ 2 _ _ _ HF.out.rA; have a3 := cell_of_row _ _ 3 _ _ _ HF.out.rA
                        have b0 := cell_of_row _ _ 0 _ _ _ HF.out.rB; have b1 := cell_of_row _ _ 1 _ _ _ HF.out.rB; have b2 := cell_of_row _ _ 2 _ _ _ HF.out.rB; have b3 := cell_of_row _ _ 3 _ _ _ HF.out.rB
                        simp only [List.getElem?_toArray, List.getElem?_cons_zero, List.getElem?_cons_succ] at a0 a1 a2 a3 b0 b1 b2 b3
                        have hz : isNumB b 1 = false := HE.out
                        go_wp2_with fail
                        go_meet
                        exact ⟨by rw [he1, hz]; rfl, Lib.hid ⟨HF.out, HX.out⟩⟩
                case rest =>
                  obtain ⟨rfl, HFF⟩ := hcut
                  replace HF := Lib.hid HFF.out.1
                  replace HX := Lib.hid HFF.out.2
                  clear HFF
                  clear p0 p1 p2 p3 z0 z1 z2 z3 f0 f1 f2 f3 a0 a1 a2 a3 b0 b1 b2 b3
                  have p0 := HF.out.two.p0; have p1 := HF.out.two.p1; have p2 := HF.out.two.p2; have p3 := HF.out.two.p3
                  have z0 := HF.out.two.z0; have z1 := HF.out.two.z1; have z2 := HF.out.two.z2; have z3 := HF.out.two.z3
                  have f0 := HF.out.two.zf 0; have f1 := HF.out.two.zf 1; have f2 := HF.out.two.zf 2; have f3 := HF.out.two.zf 3
                  have a0 := cell_of_row _ _ 0 _ _ _ HF.out.rA; have a1 := cell_of_row _ _ 1 _ _ _ HF.out.rA; have a2 := cell_of_row _ _ 2 _ _ _ HF.out.rA; have a3 := cell_of_row _ _ 3 _ _ _ HF.out.rA
                  have b0 := cell_of_row _ _ 0 _ _ _ HF.out.rB; have b1 := cell_of_row _ _ 1 _ _ _ HF.out.rB; have b2 := cell_of_row _ _ 2 _ _ _ HF.out.rB; have b3 := cell_of_row _ _ 3 _ _ _ HF.out.rB
                  simp only [List.getElem?_toArray, List.getElem?_cons_zero, List.getElem?_cons_succ] at a0 a1 a2 a3 b0 b1 b2 b3
                  cases hd : ((isNumB b 0 && ((op == 3) || (op == 4))) || (isNumB b 1 && ((op == 5) || (op == 6)))) with
                  | true =>
                    have HGT := Lib.hid HG.out
                    rw [hd] at HGT
                    clear hd
                    have HZ := Lib.hid (HF.out.two.fin HS.out HX.out.a)
                    have HQ := Lib.hid (show R = _ from HGT.out)
                    go_wp2
                    refine bodyPost_ret (results_cell_row rfl _ _ (w.heap.size + 1) 29 _ (0, 0) _ rfl HZ.out.1 Tryd.underlying29 rfl (by kernel_rfl)) rfl ?_
                    exact ⟨[_, _, _, _], rfl, by rw [HQ.out]; exact HZ.out.2.1, HZ.out.2.2⟩
                  | false =>
                    replace HG := Lib.hid HG.out
                    rw [hd] at HG
                    clear hd
                    go_upto_region 21 with fail
                    go_cut [110] (fun v wx => v = .bool (isNumB a 0 && (op == 3)) ∧ Hid (FP w op n name a b (.slice (some ⟨kb, off, none⟩) 2 xc) ka kc qa qc bA (bA + 1) wx ∧ FX (m + 1) S op n name (.slice (some ⟨kb, off, none⟩) 2 xc) (.mk op n name [a, b]) a b ka kc qa qc wx))
                    case first =>
                      as_aux_lemma =>
                        cases hn : isNumB a 0 with
                        | true =>
                          have HE := Lib.hid (show ((a.op == 1) && (a.n == 0)) = true from hn)
                          go_wp2_with fail
                          refine (isNumS_any _ _ _ _ _ _ true HE.out.symm).mono ?_
                          rintro e w4 ⟨rfl, hb⟩
                          clear p0 p1 p2 p3 z0 z1 z2 z3 f0 f1 f2 f3 a0 a1 a2 a3 b0 b1 b2 b3
                          replace HX := Lib.hid (HX.out.later hb)
                          replace HF := Lib.hid (HF.out.later hb)
                          clear hb
                          have p0 := HF.out.two.p0; have p1 := HF.out.two.p1; have p2 := HF.out.two.p2; have p3 := HF.out.two.p3
                          have z0 := HF.out.two.z0; have z1 := HF.out.two.z1; have z2 := HF.out.two.z2; have z3 := HF.out.two.z3
                          have f0 := HF.out.two.zf 0; have f1 := HF.out.two.zf 1; have f2 := HF.out.two.zf 2; have f3 := HF.out.two.zf 3
                          have a0 := cell_of_row _ _ 0 _ _ _ HF.out.rA; have a1 := cell_of_row _ _ 1 _ _ _ HF.out.rA; have a2 := cell_of_row _ _ 2 _ _ _ HF.out.rA; have a3 := cell_of_row _ _ 3 _ _ _ HF.out.rA
                          have b0 := cell_of_row _ _ 0 _ _ _ HF.out.rB; have b1 := cell_of_row _ _ 1 _ _ _ HF.out.rB; have b2 := cell_of_row _ _ 2 _ _ _ HF.out.rB; have b3 := cell_of_row _ _ 3 _ _ _ HF.out.rB
                          simp only [List.getElem?_toArray, List.getElem?_cons_zero, List.getElem?_cons_succ] at a0 a1 a2 a3 b0 b1 b2 b3
                          have hz : isNumB a 0 = true := HE.out
                          cases t3 : (op == 3) with
                          | true =>
                            go_wp2_with fail
                            go_meet
                            exact ⟨by rw [hz, t3]; rfl, Lib.hid ⟨HF.out, HX.out⟩⟩
                          | false =>
                            go_wp2_with fail
                            go_meet
                            exact ⟨by rw [hz, t3]; rfl, Lib.hid ⟨HF.out, HX.out⟩⟩
                        | false =>
                          have HE := Lib.hid (show ((a.op == 1) && (a.n == 0)) = false from hn)
                          go_wp2_with fail
                          refine (isNumS_any _ _ _ _ _ _ false HE.out.symm).mono ?_
                          rintro e w4 ⟨rfl, hb⟩
                          clear p0 p1 p2 p3 z0 z1 z2 z3 f0 f1 f2 f3 a0 a1 a2 a3 b0 b1 b2 b3
                          replace HX := Lib.hid (HX.out.later hb)
                          replace HF := Lib.hid (HF.out.later hb)
                          clear hb
                          have p0 := HF.out.two.p0; have p1 := HF.out.two.p1; have p2 := HF.out.two.p2; have p3 := HF.out.two.p3
                          have z0 := HF.out.two.z0; have z1 := HF.out.two.z1; have z2 := HF.out.two.z2; have z3 := HF.out.two.z3
                          have f0 := HF.out.two.zf 0; have f1 := HF.out.two.zf 1; have f2 := HF.out.two.zf 2; have f3 := HF.out.two.zf 3
                          have a0 := cell_of_row _ _ 0 _ _ _ HF.out.rA; have a1 := cell_of_row _ _ 1 _ _ _ HF.out.rA; have a2 := cell_of_row _ _ 2 _ _ _ HF.out.rA; have a3 := cell_of_row _ _ 3 _ _ _ HF.out.rA
                          have b0 := cell_of_row _ _ 0 _ _ _ HF.out.rB; have b1 := cell_of_row _ _ 1 _ _ _ HF.out.rB; have b2 := cell_of_row _ _ 2 _ _ _ HF.out.rB; have b3 := cell_of_row _ _ 3 _ _ _ HF.out.rB
                          simp only [List.getElem?_toArray, List.getElem?_cons_zero, List.getElem?_cons_succ] at a0 a1 a2 a3 b0 b1 b2 b3
                          have hz : isNumB a 0 = false := HE.out
                          go_wp2_with fail
                          go_meet
                          exact ⟨by rw [hz]; rfl, Lib.hid ⟨HF.out, HX.out⟩⟩
                    case rest =>
                      obtain ⟨rfl, HFF⟩ := hcut
                      replace HF := Lib.hid HFF.out.1
                      replace HX := Lib.hid HFF.out.2
                      clear HFF
                      clear p0 p1 p2 p3 z0 z1 z2 z3 f0 f1 f2 f3 a0 a1 a2 a3 b0 b1 b2 b3
                      have p0 := HF.out.two.p0; have p1 := HF.out.two.p1; have p2 := HF.out.two.p2; have p3 := HF.out.two.p3
                      have z0 := HF.out.two.z0; have z1 := HF.out.two.z1; have z2 := HF.out.two.z2; have z3 := HF.out.two.z3
                      have f0 := HF.out.two.zf 0; have f1 := HF.out.two.zf 1; have f2 := HF.out.two.zf 2; have f3 := HF.out.two.zf 3
                      have a0 := cell_of_row _ _ 0 _ _ _ HF.out.rA; have a1 := cell_of_row _ _ 1 _ _ _ HF.out.rA; have a2 := cell_of_row _ _ 2 _ _ _ HF.out.rA; have a3 := cell_of_row _ _ 3 _ _ _ HF.out.rA
                      have b0 := cell_of_row _ _ 0 _ _ _ HF.out.rB; have b1 := cell_of_row _ _ 1 _ _ _ HF.out.rB; have b2 := cell_of_row _ _ 2 _ _ _ HF.out.rB; have b3 := cell_of_row _ _ 3 _ _ _ HF.out.rB
                      simp only [List.getElem?_toArray, List.getElem?_cons_zero, List.getElem?_cons_succ] at a0 a1 a2 a3 b0 b1 b2 b3
                      go_upto_if 110 with fail
                      go_cut [110] (fun v wx => v = .bool ((isNumB a 0 && (op == 3)) || (isNumB a 1 && (op == 5))) ∧ Hid (FP w op n name a b (.slice (some ⟨kb, off, none⟩) 2 xc) ka kc qa qc bA (bA + 1) wx ∧ FX (m + 1) S op n name (.slice (some ⟨kb, off, none⟩) 2 xc) (.mk op n name [a, b]) a b ka kc qa qc wx))
                      case first =>
                        as_aux_lemma =>
                          cases he1 : (isNumB a 0 && (op == 3)) with
                          | true =>
                            go_wp2_with fail
                            go_meet
                            exact ⟨by rw [he1]; rfl, Lib.hid ⟨HF.out, HX.out⟩⟩
                          | false =>
                            cases hn : isNumB a 1 with
                            | true =>
                              have HE := Lib.hid (show ((a.op == 1) && (a.n == 1)) = true from hn)
                              go_wp2_with fail
                              refine (isNumS_any _ _ _ _ _ _ true HE.out.symm).mono ?_
                              rintro e w4 ⟨rfl, hb⟩
                              clear p0 p1 p2 p3 z0 z1 z2 z3 f0 f1 f2 f3 a0 a1 a2 a3 b0 b1 b2 b3
                              replace HX := Lib.hid (HX.out.later hb)
                              replace HF := Lib.hid (HF.out.later hb)
                              clear hb
                              have p0 := HF.out.two.p0; have p1 := HF.out.two.p1; have p2 := HF.out.two.p2; have p3 := HF.out.two.p3
                              have z0 := HF.out.two.z0; have z1 := HF.out.two.z1; have z2 := HF.out.two.z2; have z3 := HF.out.two.z3
                              have f0 := HF.out.two.zf 0; have f1 := HF.out.two.zf 1; have f2 := HF.out.two.zf 2; have f3 := HF.out.two.zf 3
                              have a0 := cell_of_row _ _ 0 _ _ _ HF.out.rA; have a1 := cell_of_row _ _ 1 _ _ _ HF.out.rA; have a2 := cell_of_row _ _ 2 _ _ _ HF.out.rA; have a3 := cell_of_row _ _ 3 _ _ _ HF.out.rA
                              have b0 := cell_of_row _ _ 0 _ _ _ HF.out.rB; have b1 := cell_of_row _ _ 1 _ _ _ HF.out.rB; have b2 := cell_of_row _ _ 2 _ _ _ HF.out.rB; have b3 := cell_of_row _ _ 3 _ _ _ HF.out.rB
                              simp only [List.getElem?_toArray, List.getElem?_cons_zero, List.getElem?_cons_succ] at a0 a1 a2 a3 b0 b1 b2 b3
                              have hz : isNumB a 1 = true := HE.out
                              cases t5 : (op == 5) with
                              | true =>
                                go_wp2_with fail
                                go_meet
                                exact ⟨by rw [he1, hz, t5]; rfl, Lib.hid ⟨HF.out, HX.out⟩⟩
                              | false =>
                                go_wp2_with fail
                                go_meet
                                exact ⟨by rw [he1, hz, t5]; rfl, Lib.hid ⟨HF.out, HX.out⟩⟩
                            | false =>
                              have HE := Lib.hid (show ((a.op == 1) && (a.n == 1)) = false from hn)
                              go_wp2_with fail
                              refine (isNumS_any _ _ _ _ _ _ false HE.out.symm).mono ?_
                              rintro e w4 ⟨rfl, hb⟩
                              clear p0 p1 p2 p3 z0 z1 z2 z3 f0 f1 f2 f3 a0 a1 a2 a3 b0 b1 b2 b3
                              replace HX := Lib.hid (HX.out.later hb)
                              replace HF := Lib.hid (HF.out.later hb)
                              clear hb
                              have p0 := HF.out.two.p0; have p1 := HF.out.two.p1; have p2 := HF.out.two.p2; have p3 := HF.out.two.p3
                              have z0 := HF.out.two.z0; have z1 := HF.out.two.z1; have z2 := HF.out.two.z2; have z3 := HF.out.two.z3
                              have f0 := HF.out.two.zf 0; have f1 := HF.out.two.zf 1; have f2 := HF.out.two.zf 2; have f3 := HF.out.two.zf 3
                              have a0 := cell_of_row _ _ 0 _ _ _ HF.out.rA; have a1 := cell_of_row _ _ 1 _ _ _ HF.out.rA; have a2 := cell_of_row _ _ 2 _ _ _ HF.out.rA; have a3 := cell_of_row _ _ 3 _ _ _ HF.out.rA
                              have b0 := cell_of_row _ _ 0 _ _ _ HF.out.rB; have b1 := cell_of_row _ _ 1 _ _ _ HF.out.rB; have b2 := cell_of_row _ _ 2 _ _ _ HF.out.rB; have b3 := cell_of_row _ _ 3 _ _ _ HF.out.rB
                              simp only [List.getElem?_toArray, List.getElem?_cons_zero, List.getElem?_cons_succ] at a0 a1 a2 a3 b0 b1 b2 b3
                              have hz : isNumB a 1 = false := HE.out
                              go_wp2_with fail
                              go_meet
                              exact ⟨by rw [he1, hz]; rfl, Lib.hid ⟨HF.out, HX.out⟩⟩
                      case rest =>
                        obtain ⟨rfl, HFF⟩ := hcut
                        replace HF := Lib.hid HFF.out.1
                        replace HX := Lib.hid HFF.out.2
                        clear HFF
                        clear p0 p1 p2 p3 z0 z1 z2 z3 f0 f1 f2 f3 a0 a1 a2 a3 b0 b1 b2 b3
                        have p0 := HF.out.two.p0; have p1 := HF.out.two.p1; have p2 := HF.out.two.p2; have p3 := HF.out.two.p3
                        have z0 := HF.out.two.z0; have z1 := HF.out.two.z1; have z2 := HF.out.two.z2; have z3 := HF.out.two.z3
                        have f0 := HF.out.two.zf 0; have f1 := HF.out.two.zf 1; have f2 := HF.out.two.zf 2; have f3 := HF.out.two.zf 3
                        have a0 := cell_of_row _ _ 0 _ _ _ HF.out.rA; have a1 := cell_of_row _ _ 1 _ _ _ HF.out.rA; have a2 := cell_of_row _ _ 2 _ _ _ HF.out.rA; have a3 := cell_of_row _ _ 3 _ _ _ HF.out.rA
                        have b0 := cell_of_row _ _ 0 _ _ _ HF.out.rB; have b1 := cell_of_row _ _ 1 _ _ _ HF.out.rB; have b2 := cell_of_row _ _ 2 _ _ _ HF.out.rB; have b3 := cell_of_row _ _ 3 _ _ _ HF.out.rB
                        simp only [List.getElem?_toArray, List.getElem?_cons_zero, List.getElem?_cons_succ] at a0 a1 a2 a3 b0 b1 b2 b3
                        cases hd : ((isNumB a 0 && (op == 3)) || (isNumB a 1 && (op == 5))) with
                        | true =>
                          have HGT := Lib.hid HG.out
                          rw [hd] at HGT
                          clear hd
                          have HZ := Lib.hid (HF.out.two.fin HS.out HX.out.b)
                          have HQ := Lib.hid (show R = _ from HGT.out)
                          go_wp2
                          refine bodyPost_ret (results_cell_row rfl _ _ (w.heap.size + 1) 29 _ (0, 0) _ rfl HZ.out.1 Tryd.underlying29 rfl (by kernel_rfl)) rfl ?_
                          exact ⟨[_, _, _, _], rfl, by rw [HQ.out]; exact HZ.out.2.1, HZ.out.2.2⟩
                        | false =>
                          replace HG := Lib.hid HG.out
                          rw [hd] at HG
                          clear hd
                          go_upto_region 24 with fail
                          go_cut [126] (fun v wx => v = .bool ((op == 5) && ((isNumB b 0 && safeD a) || (isNumB a 0 && safeD b))) ∧ Hid (FP w op n name a b (.slice (some ⟨kb, off, none⟩) 2 xc) ka kc qa qc bA (bA + 1) wx ∧ FX (m + 1) S op n name (.slice (some ⟨kb, off, none⟩) 2 xc) (.mk op n name [a, b]) a b ka kc qa qc wx))
                          case first =>
                            as_aux_lemma =>
                              cases t5 : (op == 5) with
                              | false =>
                                go_wp2_with fail
                                go_meet
                                exact ⟨by rw [t5]; rfl, Lib.hid ⟨HF.out, HX.out⟩⟩
                              | true =>
                                cases hn : isNumB b 0 with
                                | true =>
                                  have HE := Lib.hid (show ((b.op == 1) && (b.n == 0)) = true from hn)
                                  go_wp2_with fail
                                  refine (isNumS_any _ _ _ _ _ _ true HE.out.symm).mono ?_
                                  rintro e w4 ⟨rfl, hb⟩
                                  clear p0 p1 p2 p3 z0 z1 z2 z3 f0 f1 f2 f3 a0 a1 a2 a3 b0 b1 b2 b3
                                  replace HX := Lib.hid (HX.out.later hb)
                                  replace HF := Lib.hid (HF.out.later hb)
                                  clear hb
                                  have p0 := HF.out.two.p0; have p1 := HF.out.two.p1; have p2 := HF.out.two.p2; have p3 := HF.out.two.p3
                                  have z0 := HF.out.two.z0; have z1 := HF.out.two.z1; have z2 := HF.out.two.z2; have z3 := HF.out.two.z3
                                  have f0 := HF.out.two.zf 0; have f1 := HF.out.two.zf 1; have f2 := HF.out.two.zf 2; have f3 := HF.out.two.zf 3
                                  have a0 := cell_of_row _ _ 0 _ _ _ HF.out.rA; have a1 := cell_of_row _ _ 1 _ _ _ HF.out.rA; have a2 := cell_of_row _ _ 2 _ _ _ HF.out.rA; have a3 := cell_of_row _ _ 3 _ _ _ HF.out.rA
                                  have b0 := cell_of_row _ _ 0 _ _ _ HF.out.rB; have b1 := cell_of_row _ _ 1 _ _ _ HF.out.rB; have b2 := cell_of_row _ _ 2 _ _ _ HF.out.rB; have b3 := cell_of_row _ _ 3 _ _ _ HF.out.rB
                                  simp only [List.getElem?_toArray, List.getElem?_cons_zero, List.getElem?_cons_succ] at a0 a1 a2 a3 b0 b1 b2 b3
                                  have hzb : isNumB b 0 = true := HE.out
                                  have HSA := Lib.hid (l6Safe_kid (by have := HI.out.2.2.2.2; omega) HKS.out.1 HX.out.a)
                                  cases hsa : safeD a with
                                  | true =>
                                    rw [hsa] at HSA
                                    go_wp2_with fail
                                    refine HSA.out.mono ?_
                                    rintro e w4 ⟨rfl, hb⟩
                                    clear p0 p1 p2 p3 z0 z1 z2 z3 f0 f1 f2 f3 a0 a1 a2 a3 b0 b1 b2 b3
                                    replace HX := Lib.hid (HX.out.later hb)
                                    replace HF := Lib.hid (HF.out.later hb)
                                    clear hb
                                    have p0 := HF.out.two.p0; have p1 := HF.out.two.p1; have p2 := HF.out.two.p2; have p3 := HF.out.two.p3
                                    have z0 := HF.out.two.z0; have z1 := HF.out.two.z1; have z2 := HF.out.two.z2; have z3 := HF.out.two.z3
                                    have f0 := HF.out.two.zf 0; have f1 := HF.out.two.zf 1; have f2 := HF.out.two.zf 2; have f3 := HF.out.two.zf 3
                                    have a0 := cell_of_row _ _ 0 _ _ _ HF.out.rA; have a1 := cell_of_row _ _ 1 _ _ _ HF.out.rA; have a2 := cell_of_row _ _ 2 _ _ _ HF.out.rA; have a3 := cell_of_row _ _ 3 _ _ _ HF.out.rA
                                    have b0 := cell_of_row _ _ 0 _ _ _ HF.out.rB; have b1 := cell_of_row _ _ 1 _ _ _ HF.out.rB; have b2 := cell_of_row _ _ 2 _ _ _ HF.out.rB; have b3 := cell_of_row _ _ 3 _ _ _ HF.out.rB
                                    simp only [List.getElem?_toArray, List.getElem?_cons_zero, List.getElem?_cons_succ] at a0 a1 a2 a3 b0 b1 b2 b3
                                    clear HSA
                                    go_wp2_with fail
                                    go_meet
                                    exact ⟨by rw [t5, hzb, hsa]; rfl, Lib.hid ⟨HF.out, HX.out⟩⟩
                                  | false =>
                                    rw [hsa] at HSA
                                    go_wp2_with fail
                                    refine HSA.out.mono ?_
                                    rintro e w4 ⟨rfl, hb⟩
                                    clear p0 p1 p2 p3 z0 z1 z2 z3 f0 f1 f2 f3 a0 a1 a2 a3 b0 b1 b2 b3
                                    replace HX := Lib.hid (HX.out.later hb)
                                    replace HF := Lib.hid (HF.out.later hb)
                                    clear hb
                                    have p0 := HF.out.two.p0; have p1 := HF.out.two.p1; have p2 := HF.out.two.p2; have p3 := HF.out.two.p3
                                    have z0 := HF.out.two.z0; have z1 := HF.out.two.z1; have z2 := HF.out.two.z2; have z3 := HF.out.two.z3
                                    have f0 := HF.out.two.zf 0; have f1 := HF.out.two.zf 1; have f2 := HF.out.two.zf 2; have f3 := HF.out.two.zf 3
                                    have a0 := cell_of_row _ _ 0 _ _ _ HF.out.rA; have a1 := cell_of_row _ _ 1 _ _ _ HF.out.rA; have a2 := cell_of_row _ _ 2 _ _ _ HF.out.rA; have a3 := cell_of_row _ _ 3 _ _ _ HF.out.rA
                                    have b0 := cell_of_row _ _ 0 _ _ _ HF.out.rB; have b1 := cell_of_row _ _ 1 _ _ _ HF.out.rB; have b2 := cell_of_row _ _ 2 _ _ _ HF.out.rB; have b3 := cell_of_row _ _ 3 _ _ _ HF.out.rB
                                    simp only [List.getElem?_toArray, List.getElem?_cons_zero, List.getElem?_cons_succ] at a0 a1 a2 a3 b0 b1 b2 b3
                                    clear HSA
                                    cases hn : isNumB a 0 with
                                    | true =>
                                      have HE := Lib.hid (show ((a.op == 1) && (a.n == 0)) = true from hn)
                                      go_wp2_with fail
                                      refine (isNumS_any _ _ _ _ _ _ true HE.out.symm).mono ?_
                                      rintro e w4 ⟨rfl, hb⟩
                                      clear p0 p1 p2 p3 z0 z1 z2 z3 f0 f1 f2 f3 a0 a1 a2 a3 b0 b1 b2 b3
                                      replace HX := Lib.hid (HX.out.later hb)
                                      replace HF := Lib.hid (HF.out.later hb)
                                      clear hb
                                      have p0 := HF.out.two.p0; have p1 := HF.out.two.p1; have p2 := HF.out.two.p2; have p3 := HF.out.two.p3
                                      have z0 := HF.out.two.z0; have z1 := HF.out.two.z1; have z2 := HF.out.two.z2; have z3 := HF.out.two.z3
                                      have f0 := HF.out.two.zf 0; have f1 := HF.out.two.zf 1; have f2 := HF.out.two.zf 2; have f3 := HF.out.two.zf 3
                                      have a0 := cell_of_row _ _ 0 _ _ _ HF.out.rA; have a1 := cell_of_row _ _ 1 _ _ _ HF.out.rA; have a2 := cell_of_row _ _ 2 _ _ _ HF.out.rA; have a3 := cell_of_row _ _ 3 _ _ _ HF.out.rA
                                      have b0 := cell_of_row _ _ 0 _ _ _ HF.out.rB; have b1 := cell_of_row _ _ 1 _ _ _ HF.out.rB; have b2 := cell_of_row _ _ 2 _ _ _ HF.out.rB; have b3 := cell_of_row _ _ 3 _ _ _ HF.out.rB
                                      simp only [List.getElem?_toArray, List.getElem?_cons_zero, List.getElem?_cons_succ] at a0 a1 a2 a3 b0 b1 b2 b3
                                      have hza : isNumB a 0 = true := HE.out
                                      have HSA := Lib.hid (l6Safe_kid (by have := HI.out.2.2.2.2; omega) HKS.out.2.1 HX.out.b)
                                      cases hsb : safeD b with
                                      | true =>
                                        rw [hsb] at HSA
                                        go_wp2_with fail
                                        refine HSA.out.mono ?_
                                        rintro e w4 ⟨rfl, hb⟩
                                        clear p0 p1 p2 p3 z0 z1 z2 z3 f0 f1 f2 f3 a0 a1 a2 a3 b0 b1 b2 b3
                                        replace HX := Lib.hid (HX.out.later hb)
                                        replace HF := Lib.hid (HF.out.later hb)
                                        clear hb
                                        have p0 := HF.out.two.p0; have p1 := HF.out.two.p1; have p2 := HF.out.two.p2; have p3 := HF.out.two.p3
                                        have z0 := HF.out.two.z0; have z1 := HF.out.two.z1; have z2 := HF.out.two.z2; have z3 := HF.out.two.z3
                                        have f0 := HF.out.two.zf 0; have f1 := HF.out.two.zf 1; have f2 := HF.out.two.zf 2; have f3 := HF.out.two.zf 3
                                        have a0 := cell_of_row _ _ 0 _ _ _ HF.out.rA; have a1 := cell_of_row _ _ 1 _ _ _ HF.out.rA; have a2 := cell_of_row _ _ 2 _ _ _ HF.out.rA; have a3 := cell_of_row _ _ 3 _ _ _ HF.out.rA
                                        have b0 := cell_of_row _ _ 0 _ _ _ HF.out.rB; have b1 := cell_of_row _ _ 1 _ _ _ HF.out.rB; have b2 := cell_of_row _ _ 2 _ _ _ HF.out.rB; have b3 := cell_of_row _ _ 3 _ _ _ HF.out.rB
                                        simp only [List.getElem?_toArray, List.getElem?_cons_zero, List.getElem?_cons_succ] at a0 a1 a2 a3 b0 b1 b2 b3
                                        clear HSA
                                        go_wp2_with fail
                                        go_meet
                                        exact ⟨by rw [t5, hzb, hsa, hza, hsb]; rfl, Lib.hid ⟨HF.out, HX.out⟩⟩
                                      | false =>
                                        rw [hsb] at HSA
                                        go_wp2_with fail
                                        refine HSA.out.mono ?_
                                        rintro e w4 ⟨rfl, hb⟩
                                        clear p0 p1 p2 p3 z0 z1 z2 z3 f0 f1 f2 f3 a0 a1 a2 a3 b0 b1 b2 b3
                                        replace HX := Lib.hid (HX.out.later hb)
                                        replace HF := Lib.hid (HF.out.later hb)
                                        clear hb
                                        have p0 := HF.out.two.p0; have p1 := HF.out.two.p1; have p2 := HF.out.two.p2; have p3 := HF.out.two.p3
                                        have z0 := HF.out.two.z0; have z1 := HF.out.two.z1; have z2 := HF.out.two.z2; have z3 := HF.out.two.z3
                                        have f0 := HF.out.two.zf 0; have f1 := HF.out.two.zf 1; have f2 := HF.out.two.zf 2; have f3 := HF.out.two.zf 3
                                        have a0 := cell_of_row _ _ 0 _ _ _ HF.out.rA; have a1 := cell_of_row _ _ 1 _ _ _ HF.out.rA; have a2 := cell_of_row _ _ 2 _ _ _ HF.out.rA; have a3 := cell_of_row _ _ 3 _ _ _ HF.out.rA
                                        have b0 := cell_of_row _ _ 0 _ _ _ HF.out.rB; have b1 := cell_of_row _ _ 1 _ _ _ HF.out.rB; have b2 := cell_of_row _ _ 2 _ _ _ HF.out.rB; have b3 := cell_of_row _ _ 3 _ _ _ HF.out.rB
                                        simp only [List.getElem?_toArray, List.getElem?_cons_zero, List.getElem?_cons_succ] at a0 a1 a2 a3 b0 b1 b2 b3
                                        clear HSA
                                        go_wp2_with fail
                                        go_meet
                                        exact ⟨by rw [t5, hzb, hsa, hza, hsb]; rfl, Lib.hid ⟨HF.out, HX.out⟩⟩
                                    | false =>
                                      have HE := Lib.hid (show ((a.op == 1) && (a.n == 0)) = false from hn)
                                      go_wp2_with fail
                                      refine (isNumS_any _ _ _ _ _ _ false HE.out.symm).mono ?_
                                      rintro e w4 ⟨rfl, hb⟩
                                      clear p0 p1 p2 p3 z0 z1 z2 z3 f0 f1 f2 f3 a0 a1 a2 a3 b0 b1 b2 b3
                                      replace HX := Lib.hid (HX.out.later hb)
                                      replace HF := Lib.hid (HF.out.later hb)
                                      clear hb
                                      have p0 := HF.out.two.p0; have p1 := HF.out.two.p1; have p2 := HF.out.two.p2; have p3 := HF.out.two.p3
                                      have z0 := HF.out.two.z0; have z1 := HF.out.two.z1; have z2 := HF.out.two.z2; have z3 := HF.out.two.z3
                                      have f0 := HF.out.two.zf 0; have f1 := HF.out.two.zf 1; have f2 := HF.out.two.zf 2; have f3 := HF.out.two.zf 3
                                      have a0 := cell_of_row _ _ 0 _ _ _ HF.out.rA; have a1 := cell_of_row _ _ 1 _ _ _ HF.out.rA; have a2 := cell_of_row _ _ 2 _ _ _ HF.out.rA; have a3 := cell_of_row _ _ 3 _ _ _ HF.out.rA
                                      have b0 := cell_of_row _ _ 0 _ _ _ HF.out.rB; have b1 := cell_of_row _ _ 1 _ _ _ HF.out.rB; have b2 := cell_of_row _ _ 2 _ _ _ HF.out.rB; have b3 := cell_of_row _ _ 3 _ _ _ HF.out.rB
                                      simp only [List.getElem?_toArray, List.getElem?_cons_zero, List.getElem?_cons_succ] at a0 a1 a2 a3 b0 b1 b2 b3
                                      have hza : isNumB a 0 = false := HE.out
                                      go_wp2_with fail
                                      go_meet
                                      exact ⟨by rw [t5, hzb, hsa, hza]; rfl, Lib.hid ⟨HF.out, HX.out⟩⟩
                                | false =>
                                  have HE := Lib.hid (show ((b.op == 1) && (b.n == 0)) = false from hn)
                                  go_wp2_with fail
                                  refine (isNumS_any _ _ _ _ _ _ false HE.out.symm).mono ?_
                                  rintro e w4 ⟨rfl, hb⟩
                                  clear p0 p1 p2 p3 z0 z1 z2 z3 f0 f1 f2 f3 a0 a1 a2 a3 b0 b1 b2 b3
                                  replace HX := Lib.hid (HX.out.later hb)
                                  replace HF := Lib.hid (HF.out.later hb)
                                  clear hb
                                  have p0 := HF.out.two.p0; have p1 := HF.out.two.p1; have p2 := HF.out.two.p2; have p3 := HF.out.two.p3
                                  have z0 := HF.out.two.z0; have z1 := HF.out.two.z1; have z2 := HF.out.two.z2; have z3 := HF.out.two.z3
                                  have f0 := HF.out.two.zf 0; have f1 := HF.out.two.zf 1; have f2 := HF.out.two.zf 2; have f3 := HF.out.two.zf 3
                                  have a0 := cell_of_row _ _ 0 _ _ _ HF.out.rA; have a1 := cell_of_row _ _ 1 _ _ _ HF.out.rA; have a2 := cell_of_row _ _ 2 _ _ _ HF.out.rA; have a3 := cell_of_row _ _ 3 _ _ _ HF.out.rA
                                  have b0 := cell_of_row _ _ 0 _ _ _ HF.out.rB; have b1 := cell_of_row _ _ 1 _ _ _ HF.out.rB; have b2 := cell_of_row _ _ 2 _ _ _ HF.out.rB; have b3 := cell_of_row _ _ 3 _ _ _ HF.out.rB
                                  simp only [List.getElem?_toArray, List.getElem?_cons_zero, List.getElem?_cons_succ] at a0 a1 a2 a3 b0 b1 b2 b3
                                  have hzb : isNumB b 0 = false := HE.out
                                  cases hn : isNumB a 0 with
                                  | true =>
                                    have HE := Lib.hid (show ((a.op == 1) && (a.n == 0)) = true from hn)
                                    go_wp2_with fail
                                    refine (isNumS_any _ _ _ _ _ _ true HE.out.symm).mono ?_
                                    rintro e w4 ⟨rfl, hb⟩
                                    clear p0 p1 p2 p3 z0 z1 z2 z3 f0 f1 f2 f3 a0 a1 a2 a3 b0 b1 b2 b3
                                    replace HX := Lib.hid (HX.out.later hb)
                                    replace HF := Lib.hid (HF.out.later hb)
                                    clear hb
                                    have p0 := HF.out.two.p0; have p1 := HF.out.two.p1; have p2 := HF.out.two.p2; have p3 := HF.out.two.p3
                                    have z0 := HF.out.two.z0; have z1 := HF.out.two.z1; have z2 := HF.out.two.z2; have z3 := HF.out.two.z3
                                    have f0 := HF.out.two.zf 0; have f1 := HF.out.two.zf 1; have f2 := HF.out.two.zf 2; have f3 := HF.out.two.zf 3
                                    have a0 := cell_of_row _ _ 0 _ _ _ HF.out.rA; have a1 := cell_of_row _ _ 1 _ _ _ HF.out.rA; have a2 := cell_of_row _ _ 2 _ _ _ HF.out.rA; have a3 := cell_of_row _ _ 3 _ _ _ HF.out.rA
                                    have b0 := cell_of_row _ _ 0 _ _ _ HF.out.rB; have b1 := cell_of_row _ _ 1 _ _ _ HF.out.rB; have b2 := cell_of_row _ _ 2 _ _ _ HF.out.rB; have b3 := cell_of_row _ _ 3 _ _ _ HF.out.rB
                                    simp only [List.getElem?_toArray, List.getElem?_cons_zero, List.getElem?_cons_succ] at a0 a1 a2 a3 b0 b1 b2 b3
                                    have hza : isNumB a 0 = true := HE.out
                                    have HSA := Lib.hid (l6Safe_kid (by have := HI.out.2.2.2.2; omega) HKS.out.2.1 HX.out.b)
                                    cases hsb : safeD b with
                                    | true =>
                                      rw [hsb] at HSA
                                      go_wp2_with fail
                                      refine HSA.out.mono ?_
                                      rintro e w4 ⟨rfl, hb⟩
                                      clear p0 p1 p2 p3 z0 z1 z2 z3 f0 f1 f2 f3 a0 a1 a2 a3 b0 b1 b2 b3
                                      replace HX := Lib.hid (HX.out.later hb)
                                      replace HF := Lib.hid (HF.out.later hb)
                                      clear hb
                                      have p0 := HF.out.two.p0; have p1 := HF.out.two.p1; have p2 := HF.out.two.p2; have p3 := HF.out.two.p3
                                      have z0 := HF.out.two.z0; have z1 := HF.out.two.z1; have z2 := HF.out.two.z2; have z3 := HF.out.two.z3
                                      have f0 := HF.out.two.zf 0; have f1 := HF.out.two.zf 1; have f2 := HF.out.two.zf 2; have f3 := HF.out.two.zf 3
                                      have a0 := cell_of_row _ _ 0 _ _ _ HF.out.rA; have a1 := cell_of_row _ _ 1 _ _ _ HF.out.rA; have a2 := cell_of_row _ _ 2 _ _ _ HF.out.rA; have a3 := cell_of_row _ _ 3 _ _ _ HF.out.rA
                                      have b0 := cell_of_row _ _ 0 _ _ _ HF.out.rB; have b1 := cell_of_row _ _ 1 _ _ _ HF.out.rB; have b2 := cell_of_row _ _ 2 _ _ _ HF.out.rB; have b3 := cell_of_row _ _ 3 _ _ _ HF.out.rB
                                      simp only [List.getElem?_toArray, List.getElem?_cons_zero, List.getElem?_cons_succ] at a0 a1 a2 a3 b0 b1 b2 b3
                                      clear HSA
                                      go_wp2_with fail
                                      go_meet
                                      exact ⟨by rw [t5, hzb, hza, hsb]; rfl, Lib.hid ⟨HF.out, HX.out⟩⟩
                                    | false =>
                                      rw [hsb] at HSA
                                      go_wp2_with fail
                                      refine HSA.out.mono ?_
                                      rintro e w4 ⟨rfl, hb⟩
                                      clear p0 p1 p2 p3 z0 z1 z2 z3 f0 f1 f2 f3 a0 a1 a2 a3 b0 b1 b2 b3
                                      replace HX := Lib.hid (HX.out.later hb)
                                      replace HF := Lib.hid (HF.out.later hb)
                                      clear hb
                                      have p0 := HF.out.two.p0; have p1 := HF.out.two.p1; have p2 := HF.out.two.p2; have p3 := HF.out.two.p3
                                      have z0 := HF.out.two.z0; have z1 := HF.out.two.z1; have z2 := HF.out.two.z2; have z3 := HF.out.two.z3
                                      have f0 := HF.out.two.zf 0; have f1 := HF.out.two.zf 1; have f2 := HF.out.two.zf 2; have f3 := HF.out.two.zf 3
                                      have a0 := cell_of_row _ _ 0 _ _ _ HF.out.rA; have a1 := cell_of_row _ _ 1 _ _ _ HF.out.rA; have a2 := cell_of_row _ _ 2 _ _ _ HF.out.rA; have a3 := cell_of_row _ _ 3 _ _ _ HF.out.rA
                                      have b0 := cell_of_row _ _ 0 _ _ _ HF.out.rB; have b1 := cell_of_row _ _ 1 _ _ _ HF.out.rB; have b2 := cell_of_row _ _ 2 _ _ _ HF.out.rB; have b3 := cell_of_row _ _ 3 _ _ _ HF.out.rB
                                      simp only [List.getElem?_toArray, List.getElem?_cons_zero, List.getElem?_cons_succ] at a0 a1 a2 a3 b0 b1 b2 b3
                                      clear HSA
                                      go_wp2_with fail
                                      go_meet
                                      exact ⟨by rw [t5, hzb, hza, hsb]; rfl, Lib.hid ⟨HF.out, HX.out⟩⟩
                                  | false =>
                                    have HE := Lib.hid (show ((a.op == 1) && (a.n == 0)) = false from hn)
                                    go_wp2_with fail
                                    refine (isNumS_any _ _ _ _ _ _ false HE.out.symm).mono ?_
                                    rintro e w4 ⟨rfl, hb⟩
                                    clear p0 p1 p2 p3 z0 z1 z2 z3 f0 f1 f2 f3 a0 a1 a2 a3 b0 b1 b2 b3
                                    replace HX := Lib.hid (HX.out.later hb)
                                    replace HF := Lib.hid (HF.out.later hb)
                                    clear hb
                                    have p0 := HF.out.two.p0; have p1 := HF.out.two.p1; have p2 := HF.out.two.p2; have p3 := HF.out.two.p3
                                    have z0 := HF.out.two.z0; have z1 := HF.out.two.z1; have z2 := HF.out.two.z2; have z3 := HF.out.two.z3
                                    have f0 := HF.out.two.zf 0; have f1 := HF.out.two.zf 1; have f2 := HF.out.two.zf 2; have f3 := HF.out.two.zf 3
                                    have a0 := cell_of_row _ _ 0 _ _ _ HF.out.rA; have a1 := cell_of_row _ _ 1 _ _ _ HF.out.rA; have a2 := cell_of_row _ _ 2 _ _ _ HF.out.rA; have a3 := cell_of_row _ _ 3 _ _ _ HF.out.rA
                                    have b0 := cell_of_row _ _ 0 _ _ _ HF.out.rB; have b1 := cell_of_row _ _ 1 _ _ _ HF.out.rB; have b2 := cell_of_row _ _ 2 _ _ _ HF.out.rB; have b3 := cell_of_row _ _ 3 _ _ _ HF.out.rB
                                    simp only [List.getElem?_toArray, List.getElem?_cons_zero, List.getElem?_cons_succ] at a0 a1 a2 a3 b0 b1 b2 b3
                                    have hza : isNumB a 0 = false := HE.out
                                    go_wp2_with fail
                                    go_meet
                                    exact ⟨by rw [t5, hzb, hza]; rfl, Lib.hid ⟨HF.out, HX.out⟩⟩
                          case rest =>
                            obtain ⟨rfl, HFF⟩ := hcut
                            replace HF := Lib.hid HFF.out.1
                            replace HX := Lib.hid HFF.out.2
                            clear HFF
                            clear p0 p1 p2 p3 z0 z1 z2 z3 f0 f1 f2 f3 a0 a1 a2 a3 b0 b1 b2 b3
                            have p0 := HF.out.two.p0; have p1 := HF.out.two.p1; have p2 := HF.out.two.p2; have p3 := HF.out.two.p3
                            have z0 := HF.out.two.z0; have z1 := HF.out.two.z1; have z2 := HF.out.two.z2; have z3 := HF.out.two.z3
                            have f0 := HF.out.two.zf 0; have f1 := HF.out.two.zf 1; have f2 := HF.out.two.zf 2; have f3 := HF.out.two.zf 3
                            have a0 := cell_of_row _ _ 0 _ _ _ HF.out.rA; have a1 := cell_of_row _ _ 1 _ _ _ HF.out.rA; have a2 := cell_of_row _ _ 2 _ _ _ HF.out.rA; have a3 := cell_of_row _ _ 3 _ _ _ HF.out.rA
                            have b0 := cell_of_row _ _ 0 _ _ _ HF.out.rB; have b1 := cell_of_row _ _ 1 _ _ _ HF.out.rB; have b2 := cell_of_row _ _ 2 _ _ _ HF.out.rB; have b3 := cell_of_row _ _ 3 _ _ _ HF.out.rB
                            simp only [List.getElem?_toArray, List.getElem?_cons_zero, List.getElem?_cons_succ] at a0 a1 a2 a3 b0 b1 b2 b3
                            cases hd : ((op == 5) && ((isNumB b 0 && safeD a) || (isNumB a 0 && safeD b))) with
                            | true =>
                              have HGT := Lib.hid HG.out
                              rw [hd] at HGT
                              clear hd
                              go_wp2_with fail
                              refine (numS_any 0 _).mono ?_
                              rintro e w4 ⟨rfl, hb⟩
                              clear p0 p1 p2 p3 z0 z1 z2 z3 f0 f1 f2 f3 a0 a1 a2 a3 b0 b1 b2 b3
                              replace HX := Lib.hid (HX.out.later hb)
                              replace HF := Lib.hid (HF.out.later hb)
                              clear hb
                              have p0 := HF.out.two.p0; have p1 := HF.out.two.p1; have p2 := HF.out.two.p2; have p3 := HF.out.two.p3
                              have z0 := HF.out.two.z0; have z1 := HF.out.two.z1; have z2 := HF.out.two.z2; have z3 := HF.out.two.z3
                              have f0 := HF.out.two.zf 0; have f1 := HF.out.two.zf 1; have f2 := HF.out.two.zf 2; have f3 := HF.out.two.zf 3
                              have a0 := cell_of_row _ _ 0 _ _ _ HF.out.rA; have a1 := cell_of_row _ _ 1 _ _ _ HF.out.rA; have a2 := cell_of_row _ _ 2 _ _ _ HF.out.rA; have a3 := cell_of_row _ _ 3 _ _ _ HF.out.rA
                              have b0 := cell_of_row _ _ 0 _ _ _ HF.out.rB; have b1 := cell_of_row _ _ 1 _ _ _ HF.out.rB; have b2 := cell_of_row _ _ 2 _ _ _ HF.out.rB; have b3 := cell_of_row _ _ 3 _ _ _ HF.out.rB
                              simp only [List.getElem?_toArray, List.getElem?_cons_zero, List.getElem?_cons_succ] at a0 a1 a2 a3 b0 b1 b2 b3
                              have HZ := Lib.hid (HF.out.two.fin HS.out (FX.num (Nat.succ_ne_zero m) (0)))
                              have HQ := Lib.hid (show R = _ from HGT.out)
                              go_wp2
                              refine bodyPost_ret (results_cell_row rfl _ _ (w.heap.size + 1) 29 _ (0, 0) _ rfl HZ.out.1 Tryd.underlying29 rfl (by kernel_rfl)) rfl ?_
                              exact ⟨[_, _, _, _], rfl, by rw [HQ.out]; exact HZ.out.2.1, HZ.out.2.2⟩
                            | false =>
                              replace HG := Lib.hid HG.out
                              rw [hd] at HG
                              clear hd
                              have HZ := Lib.hid (HF.out.two.fin HS.out HX.out.x)
                              have HQ := Lib.hid (show R = _ from HG.out)
                              go_wp2
                              refine bodyPost_ret (results_cell_row rfl _ _ (w.heap.size + 1) 29 _ (0, 0) _ rfl HZ.out.1 Tryd.underlying29 rfl (by kernel_rfl)) rfl ?_
                              exact ⟨[_, _, _, _], rfl, by rw [HQ.out]; exact HZ.out.2.1, HZ.out.2.2⟩
    · as_aux_lemma =>
        have HQ := Lib.hid (show R = .mk op n name kids from HR.out.trans (partF_out HI.out.1 h11 hin))
        have HZ := Lib.hid (HT.out.fin HS.out HW.out.1)
        have HIN := Lib.hid (show inE 3 op 10 = false by rw [inE, Bool.and_eq_false_iff, decide_eq_false_iff_not, decide_eq_false_iff_not]; omega)
        have t11 : (op == 11) = false := by simpa using h11
        have z0 := HT.out.z0
        have z1 := HT.out.z1
        have z2 := HT.out.z2
        have z3 := HT.out.z3
        have f0 := HT.out.zf 0
        have f1 := HT.out.zf 1
        have f2 := HT.out.zf 2
        have f3 := HT.out.zf 3
        clear h11 hin
        have hcase : kids.length = 1 ∨ ¬ kids.length = 1 := by omega
        rcases hcase with hk1 | hk1
        · have hk : ((kids.length : Int) == 1) = true := by rw [hk1]; rfl
          clear hk1
          go_wp2_with fail
          refine (l1InE_is HIN.out W1).mono ?_
          rintro e w9 ⟨rfl, rfl⟩
          go_wp2
          refine bodyPost_ret (results_cell_row rfl _ _ (w.heap.size + 1) 29 _ (0, 0) _ rfl HZ.out.1 Tryd.underlying29 rfl (by kernel_rfl)) rfl ?_
          exact ⟨[_, _, _, _], rfl, by rw [HQ.out]; exact HZ.out.2.1, HZ.out.2.2⟩
        · have hk : ((kids.length : Int) == 1) = false := by simp; omega
          clear hk1
          go_wp2_with fail
          refine (l1InE_is HIN.out W1).mono ?_
          rintro e w9 ⟨rfl, rfl⟩
          go_wp2
          refine bodyPost_ret (results_cell_row rfl _ _ (w.heap.size + 1) 29 _ (0, 0) _ rfl HZ.out.1 Tryd.underlying29 rfl (by kernel_rfl)) rfl ?_
          exact ⟨[_, _, _, _], rfl, by rw [HQ.out]; exact HZ.out.2.1, HZ.out.2.2⟩

end Go.Proofs.YtccfbnhlhjlmgaaDoor
