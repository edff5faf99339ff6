
/-
  The names of an expression's variables (VarsOf).
-/
import Derived.Test.YtccfbnhlhjlmgaaDoorNv
namespace Go.Proofs.YtccfbnhlhjlmgaaDoor
open Go.RowKit
set_option linter.unusedVariables false

theorem info_strN : (Tryd.prog.info? 9).map (fun i => (i.zero, i.size, i.bytes)) = some (some (.string ByteArray.empty), 1, 16) := by kernel_rfl
theorem und_strsN : Tryd.prog.underlying 38 = some (.slice 9) := by kernel_rfl
/-- append of one text. -/
theorem app_strN {w : World} {ops : Array Oper} {rest : List Oper} {o : Oper} {a : Act} {Q : Exit → Act → World → Prop} (hgd : o.guard = none) (s x : Operand) (ho : o.op = .call { callee := .builtin .append, args := #[s, x], argTypes := #[38, 38] })
    (base : Nat) (v : Value) (n : Nat) (xs : List Value) (hs : a.eval s = v) (hown : w.ownsRow base 9 1 v n xs)
    (ao : Option Addr) (c : Nat) (ys : List Value) (hx : a.eval x = .slice ao 1 c) (hrow : RowAt w ao ys) (hl : ys.length = 1) (hone : ∀ u ∈ ys, u.oneCell' = true)
    (hb : n + 1 ≤ 1099511627776) (hbase : base ≤ w.heap.size)
    (h : ∀ a' c' w', w'.ownsRow base 9 1 (.slice a' (n + 1) c') (n + 1) (xs ++ ys) → w.grownBy w' v.ownBlock →
      ((Value.slice a' (n + 1) c').ownBlock = v.ownBlock ∨ (Value.slice a' (n + 1) c').ownBlock = some w.heap.size) → wpList Tryd.prog ops Q rest (a.put o.dst (.slice a' (n + 1) c')) w') : wpList Tryd.prog ops Q (o :: rest) a w := by
  obtain ⟨i0, hi, hz0, hz1, hz2⟩ := info_parts info_strN
  exact wpList_append_any hgd s x 38 ho base 9 i0 (.string ByteArray.empty) 1 16 und_strsN hi hz0 hz1 hz2 rfl (by decide) v n xs hs hown ao 1 c _ hx (by simp [hl]) hrow (by
    rintro rfl
    rcases hrow with h | ⟨_, _, h, _⟩
    · rw [h] at hl; simp at hl
    · cases h) hone (by unfold maxLen; omega) (by omega) hbase h

/-- A part's name is put to the names. -/
def addN (op : Int) (e : ExprD) (acc : List ByteArray) : List ByteArray := if e.op = op ∧ hasE acc e.name = false then acc ++ [e.name] else acc
structure NamesSt (w0 : World) (bop bo : Nat) (op : Int) (w : World) (acc : List ByteArray) : Prop where
  lt : w0.heap.size ≤ bop ∧ bop < bo
  opc : w.heap[bop]? = some (.cells #[.int .i64 op] 3 (0, 0))
  row : ∃ a n c, w.heap[bo]? = some (.cells #[.slice a n c] 38 (0, 0)) ∧ w.ownsRow (bo + 1) 9 1 (.slice a n c) n (acc.map Value.string)
theorem NamesSt.later {w0 : World} {bop bo : Nat} {op : Int} {w w' : World} {acc : List ByteArray} (h : NamesSt w0 bop bo op w acc) (hb : Below w.heap.size w w') : NamesSt w0 bop bo op w' acc := by
  obtain ⟨a, n, c, h1, h2⟩ := h.row
  exact ⟨h.lt, (hb.block _ (Array.getElem?_eq_some_iff.1 h.opc).1).trans h.opc, a, n, c, (hb.block _ (Array.getElem?_eq_some_iff.1 h1).1).trans h1, ownsRow_below h2 hb⟩
/-- One more name. -/
theorem NamesSt.push {w0 : World} {bop bo : Nat} {op : Int} {w w9 : World} {acc : List ByteArray} {a a' : Option Addr} {n c c' : Nat} {s : ByteArray} (h : NamesSt w0 bop bo op w acc) (h1 : w.heap[bo]? = some (.cells #[.slice a n c] 38 (0, 0))) (h2 : w.ownsRow (bo + 1) 9 1 (.slice a n c) n (acc.map Value.string))
    (hown : w9.ownsRow (bo + 1) 9 1 (.slice a' (n + 1) c') (n + 1) (acc.map Value.string ++ [Value.string s])) (hg : w.grownBy w9 (Value.slice a n c).ownBlock) :
    w9.heap[bo]? = some (.cells #[.slice a n c] 38 (0, 0)) ∧ NamesSt w0 bop bo op (w9.setCell ⟨bo, 0, none⟩ (.slice a' (n + 1) c')) (acc ++ [s]) ∧ Below w0.heap.size w (w9.setCell ⟨bo, 0, none⟩ (.slice a' (n + 1) c')) ∧ KeepE w (w9.setCell ⟨bo, 0, none⟩ (.slice a' (n + 1) c')) := by
  have hlt := h.lt
  have hrow : ∀ i, (Value.slice a n c).ownBlock = some i → bo < i := fun i hi => by have := h2.lt i hi; omega
  have hb9 : w9.heap[bo]? = some (.cells #[.slice a n c] 38 (0, 0)) := (hg.block bo (Array.getElem?_eq_some_iff.1 h1).1 (fun e => by have := hrow bo e.symm; omega)).trans h1
  have hput := turned_store w9 bo 0 (.slice a' (n + 1) c')
  have ht := turned_of_grown hg (S := fun k => (Value.slice a n c).ownBlock = some k) (fun k hk => hk)
  have hsz : w0.heap.size ≤ w.heap.size := by have := (Array.getElem?_eq_some_iff.1 h1).1; omega
  refine ⟨hb9, ⟨hlt, ?_, a', n + 1, c', ?_, ?_⟩, ?_, ?_⟩
  · exact (heap_setCell_other _ _ _ _ (by show bop ≠ bo; omega)).trans ((hg.block bop (Array.getElem?_eq_some_iff.1 h.opc).1 (fun e => by have := hrow bop e.symm; omega)).trans h.opc)
  · rw [heap_setCell_same _ _ _ _ _ _ hb9]; rfl
  · rw [List.map_append]
    exact own_turned hown hput (fun k hk h3 => by have := (hown.lt k hk).1; omega)
  · exact (ht.below (B := w0.heap.size) hsz (fun k hk => by have := hrow k hk; omega)).setCell (show w0.heap.size ≤ bo by omega) _
  · intro i cs hi
    have hi2 : w9.heap[i]? = some (Obj.cells cs 29 (0, 0)) := (hg.block i (Array.getElem?_eq_some_iff.1 hi).1 (fun e => by
      rcases h2.2 with ⟨hv, _⟩ | ⟨g, cap', cur, hv, _, hgg, _⟩
      · rw [hv] at e; cases e
      · rw [hv] at e
        simp only [Value.ownBlock, Option.some.injEq] at e
        subst e
        rw [hi] at hgg
        simp at hgg)).trans hi
    refine (heap_setCell_other _ _ _ _ (by
      show i ≠ bo
      rintro rfl
      rw [hb9] at hi2
      simp at hi2)).trans hi2

set_option maxRecDepth 100000 in
set_option maxHeartbeats 4000000 in
theorem namesC_any (w0 : World) (bop bo : Nat) (op : Int) (d : Nat) (cs : List Value) (x : ExprD) (w : World) (acc : List ByteArray) (hx : ExprAt d w0 cs x) (hB : Below w0.heap.size w0 w) (hI : NamesSt w0 bop bo op w acc) (hb : acc.length ≤ 1000000) :
    Calls Tryd.prog 137 (#[.agg cs.toArray] ++ #[.pointer (some ⟨bop, 0, none⟩), .pointer (some ⟨bo, 0, none⟩)]) w fun e w' => e = .returned (.tuple #[]) ∧ NamesSt w0 bop bo op w' (addN op x acc) ∧ Below w0.heap.size w w' ∧ KeepE w w' := by
  obtain ⟨ka, kc, rfl⟩ := exprAt_form hx
  clear hx
  have hba : Below w.heap.size w (w.alloc (.cells #[.int .i64 x.op, .int .i64 x.n, .string x.name, .slice ka x.kids.length kc] 29)) := (Below.refl _ _).alloc (Nat.le_refl _) _
  have HB := Lib.hid (show Below w0.heap.size w (w.alloc (.cells #[.int .i64 x.op, .int .i64 x.n, .string x.name, .slice ka x.kids.length kc] 29)) ∧ KeepE w (w.alloc (.cells #[.int .i64 x.op, .int .i64 x.n, .string x.name, .slice ka x.kids.length kc] 29)) from ⟨hba.mono hB.size, KeepE.below hba⟩)
  have HI := Lib.hid (hI.later hba)
  have hrow := heap_alloc_new w (.cells #[.int .i64 x.op, .int .i64 x.n, .string x.name, .slice ka x.kids.length kc] 29)
  have HL := Lib.hid hb
  have hsz := hB.size
  have HSZ := Lib.hid hsz
  clear hI hba hB hb hsz
  show Calls _ _ #[.agg #[.int .i64 x.op, .int .i64 x.n, .string x.name, .slice ka x.kids.length kc], .pointer (some ⟨bop, 0, none⟩), .pointer (some ⟨bo, 0, none⟩)] w _
  obtain ⟨R, hR⟩ : ∃ R, R = addN op x acc := ⟨_, rfl⟩
  rw [← hR]
  have HR := Lib.hid hR
  clear hR
  go_enter Tryd.func137, Tryd.ntmps137
  go_upto_region 1 with fail
  generalize w.alloc (.cells #[.int .i64 x.op, .int .i64 x.n, .string x.name, .slice ka x.kids.length kc] 29) = W1 at HB HI hrow ⊢
  have HI2 := Lib.hid HI.out
  obtain ⟨a, n, c, hbo, hown⟩ := HI2.out.row
  have HO := Lib.hid (And.intro hbo hown)
  have k0 := cell_of_row _ _ 0 _ _ _ hbo
  have k1 := frozen_of_row _ _ 0 _ _ hbo
  have k2 := cell_of_row _ _ 0 _ _ _ HI.out.opc
  have e0 := cell_of_row _ _ 0 _ _ _ hrow
  have e2 := cell_of_row _ _ 2 _ _ _ hrow
  simp only [List.getElem?_toArray, List.getElem?_cons_zero, List.getElem?_cons_succ] at k0 k2 e0 e2
  have hS : StrsE W1 a n acc := ⟨by have := hown.1; simpa using this, rowAt_of_own hown⟩
  have HN := Lib.hid (show n = acc.length by have := hS.length; omega)
  have hC := containsE_any a n c acc x.name W1 hS (own_cap hown |>.1 |> fun h => Nat.le_trans h (own_cap hown).2)
  clear hbo hown hrow hS
  by_cases hop : x.op = op
  · have hop1 : (x.op == op) = true := by simpa using hop
    cases hh : hasE acc x.name with
    | true =>
      have HQ := Lib.hid (show R = acc by rw [HR.out, addN, if_neg (by rw [hh]; simp)])
      rw [hh] at hC
      have HC := Lib.hid hC
      clear hC hh hop
      go_wp2_with fail
      refine HC.out.mono ?_
      rintro e w2 ⟨rfl, rfl⟩
      go_wp2
      go_end0
      exact ⟨rfl, by rw [HQ.out]; exact HI.out, HB.out.1, HB.out.2⟩
    | false =>
      have HQ := Lib.hid (show R = acc ++ [x.name] by rw [HR.out, addN, if_pos ⟨hop, hh⟩])
      rw [hh] at hC
      have HC := Lib.hid hC
      clear hC hh hop
      go_wp2_with fail
      refine HC.out.mono ?_
      rintro e w2 ⟨rfl, rfl⟩
      have hba : Below W1.heap.size W1 (W1.alloc (.cells #[.string x.name] 9)) := (Below.refl _ _).alloc (Nat.le_refl _) _
      have HA := Lib.hid (show NamesSt w0 bop bo op (W1.alloc (.cells #[.string x.name] 9)) acc ∧ (W1.alloc (.cells #[.string x.name] 9)).heap[bo]? = some (.cells #[.slice a n c] 38 (0, 0)) ∧ (W1.alloc (.cells #[.string x.name] 9)).ownsRow (bo + 1) 9 1 (.slice a n c) n (acc.map Value.string) ∧ bo < (W1.alloc (.cells #[.string x.name] 9)).heap.size ∧ Below w0.heap.size w (W1.alloc (.cells #[.string x.name] 9)) ∧ KeepE w (W1.alloc (.cells #[.string x.name] 9)) from
        ⟨HI.out.later hba, (hba.block _ (Array.getElem?_eq_some_iff.1 HO.out.1).1).trans HO.out.1, ownsRow_below HO.out.2 hba, by have := (Array.getElem?_eq_some_iff.1 HO.out.1).1; have := hba.size; omega, HB.out.1.trans (hba.mono (Nat.le_trans HSZ.out HB.out.1.size)), HB.out.2.trans (KeepE.below hba)⟩)
      clear hba
      go_wp2_with (at_builtin; refine app_strN rfl (.tmp 15) (.tmp 18) rfl (bo + 1) _ n _ rfl HA.out.2.2.1 _ 1 [.string x.name] rfl (.inr ⟨_, _, rfl, fun i v hv => by (rw [cell_of_row _ _ (0 + i) _ _ _ (heap_alloc_new W1 _)]); simpa using hv⟩) rfl (by intro u hu; simp at hu; subst hu; rfl) (by have := HL.out; have := HN.out; omega) HA.out.2.2.2.1 ?_; intro a9 c9 w9 hown9 hg9 hlies9; (have HP := Lib.hid (HA.out.1.push HA.out.2.1 HA.out.2.2.1 hown9 hg9)); (have s0 := cell_of_row _ _ 0 _ _ _ HP.out.1); (have t0 := frozen_of_row _ _ 0 _ _ HP.out.1); (simp only [List.getElem?_toArray, List.getElem?_cons_zero] at s0); clear hown9 hg9 hlies9 k0 k1)
      go_end0
      exact ⟨rfl, by rw [HQ.out]; exact HP.out.2.1, HA.out.2.2.2.2.1.trans HP.out.2.2.1, HA.out.2.2.2.2.2.trans HP.out.2.2.2⟩
  · have hop1 : (x.op == op) = false := by simpa using hop
    have HQ := Lib.hid (show R = acc by rw [HR.out, addN, if_neg (fun h => hop h.1)])
    clear hop hC
    go_wp2
    go_end0
    exact ⟨rfl, by rw [HQ.out]; exact HI.out, HB.out.1, HB.out.2⟩

end Go.Proofs.YtccfbnhlhjlmgaaDoor
