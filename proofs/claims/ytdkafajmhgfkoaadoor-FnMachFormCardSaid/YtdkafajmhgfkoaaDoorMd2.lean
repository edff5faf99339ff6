
/-
  The memory of a machine that is being drawn: rows of the call's own.
-/
import Derived.Test.YtdkafajmhgfkoaaDoorMd1
import Derived.Test.YtdkafajmhgfkoaaDoorMachData
namespace Go.Proofs.YtdkafajmhgfkoaaDoor
open Go.RowKit

theorem info_mins : (Tryd.prog.info? 41).map (fun i => (i.zero, i.size, i.bytes)) = some (some (.agg #[.int .i64 0, .int .i64 0, .int .i64 0, .int .i64 0, .int .i64 0]), 5, 40) := by kernel_rfl
theorem und_minss : Tryd.prog.underlying 30 = some (.slice 41) := by kernel_rfl
theorem info_mfn : (Tryd.prog.info? 32).map (fun i => (i.zero, i.size, i.bytes)) = some (some (.agg #[.int .i64 0, .int .i64 0, .slice none 0 0]), 3, 40) := by kernel_rfl
theorem und_mfns : Tryd.prog.underlying 23 = some (.slice 32) := by kernel_rfl

section
variable {w : World} {ops : Array Oper} {rest : List Oper} {o : Oper} {a : Act} {Q : Exit → Act → World → Prop}
/-- append of one instruction. -/
theorem app_mins (hgd : o.guard = none) (s x : Operand) (ho : o.op = .call { callee := .builtin .append, args := #[s, x], argTypes := #[30, 30] })
    (base : Nat) (v : Value) (n : Nat) (xs : List Value) (hs : a.eval s = v) (hown : w.ownsRow base 41 5 v n xs)
    (ao : Option Addr) (c : Nat) (ys : List Int) (hx : a.eval x = .slice ao 1 c) (hrow : RowAt w ao (ys.map (Value.int .i64))) (hl : ys.length = 5)
    (hb : n + 1 ≤ 1099511627776) (hbase : base ≤ w.heap.size)
    (h : ∀ a' c' w', w'.ownsRow base 41 5 (.slice a' (n + 1) c') (n + 1) (xs ++ ys.map (Value.int .i64)) → w.grownBy w' v.ownBlock →
      ((Value.slice a' (n + 1) c').ownBlock = v.ownBlock ∨ (Value.slice a' (n + 1) c').ownBlock = some w.heap.size) → wpList Tryd.prog ops Q rest (a.put o.dst (.slice a' (n + 1) c')) w') : wpList Tryd.prog ops Q (o :: rest) a w := by
  obtain ⟨i0, hi, hz0, hz1, hz2⟩ := info_parts info_mins
  exact wpList_append_any hgd s x 30 ho base 41 i0 (.agg #[.int .i64 0, .int .i64 0, .int .i64 0, .int .i64 0, .int .i64 0]) 5 40 und_minss hi hz0 hz1 hz2 rfl (by decide) v n xs hs hown ao 1 c _ hx (by simp [hl]) hrow (by
    rintro rfl
    rcases hrow with h | ⟨_, _, h, _⟩
    · have := congrArg List.length h
      simp [hl] at this
    · cases h) (oneCell_ints _) (by unfold maxLen; omega) (by omega) hbase h
theorem step_app_mins {K : Act → World → Prop} {E : Prop} (hgd : o.guard = none) (s x : Operand) (ho : o.op = .call { callee := .builtin .append, args := #[s, x], argTypes := #[30, 30] })
    (base : Nat) (v : Value) (n : Nat) (xs : List Value) (hs : a.eval s = v) (hown : w.ownsRow base 41 5 v n xs)
    (ao : Option Addr) (c : Nat) (ys : List Int) (hx : a.eval x = .slice ao 1 c) (hrow : RowAt w ao (ys.map (Value.int .i64))) (hl : ys.length = 5)
    (hb : n + 1 ≤ 1099511627776) (hbase : base ≤ w.heap.size)
    (h : ∀ a' c' w', w'.ownsRow base 41 5 (.slice a' (n + 1) c') (n + 1) (xs ++ ys.map (Value.int .i64)) → w.grownBy w' v.ownBlock →
      ((Value.slice a' (n + 1) c').ownBlock = v.ownBlock ∨ (Value.slice a' (n + 1) c').ownBlock = some w.heap.size) → K (a.put o.dst (.slice a' (n + 1) c')) w') :
    if Region.wanted o (yielded ops a.tmps) = true then Oper.wp Tryd.prog o a w K Q else E := by
  obtain ⟨i0, hi, hz0, hz1, hz2⟩ := info_parts info_mins
  exact step_append_any hgd s x 30 ho base 41 i0 (.agg #[.int .i64 0, .int .i64 0, .int .i64 0, .int .i64 0, .int .i64 0]) 5 40 und_minss hi hz0 hz1 hz2 rfl (by decide) v n xs hs hown ao 1 c _ hx (by simp [hl]) hrow (by
    rintro rfl
    rcases hrow with h | ⟨_, _, h, _⟩
    · have := congrArg List.length h
      simp [hl] at this
    · cases h) (oneCell_ints _) (by unfold maxLen; omega) (by omega) hbase h
/-- append of one function. -/
theorem app_mfn (hgd : o.guard = none) (s x : Operand) (ho : o.op = .call { callee := .builtin .append, args := #[s, x], argTypes := #[23, 23] })
    (base : Nat) (v : Value) (n : Nat) (xs : List Value) (hs : a.eval s = v) (hown : w.ownsRow base 32 3 v n xs)
    (ao : Option Addr) (c : Nat) (ys : List Value) (hx : a.eval x = .slice ao 1 c) (hrow : RowAt w ao ys) (hl : ys.length = 3) (hone : ∀ u ∈ ys, u.oneCell' = true)
    (hb : n + 1 ≤ 1099511627776) (hbase : base ≤ w.heap.size)
    (h : ∀ a' c' w', w'.ownsRow base 32 3 (.slice a' (n + 1) c') (n + 1) (xs ++ ys) → w.grownBy w' v.ownBlock →
      ((Value.slice a' (n + 1) c').ownBlock = v.ownBlock ∨ (Value.slice a' (n + 1) c').ownBlock = some w.heap.size) → wpList Tryd.prog ops Q rest (a.put o.dst (.slice a' (n + 1) c')) w') : wpList Tryd.prog ops Q (o :: rest) a w := by
  obtain ⟨i0, hi, hz0, hz1, hz2⟩ := info_parts info_mfn
  exact wpList_append_any hgd s x 23 ho base 32 i0 (.agg #[.int .i64 0, .int .i64 0, .slice none 0 0]) 3 40 und_mfns hi hz0 hz1 hz2 rfl (by decide) v n xs hs hown ao 1 c _ hx (by simp [hl]) hrow (by
    rintro rfl
    rcases hrow with h | ⟨_, _, h, _⟩
    · rw [h] at hl; simp at hl
    · cases h) hone (by unfold maxLen; omega) (by omega) hbase h
end

/-- A row that was just laid. -/
theorem rowAt_cells (w : World) (cs : List Value) (t : TypeId) : RowAt (w.alloc (.cells cs.toArray t)) (some ⟨w.heap.size, 0, none⟩) cs :=
  .inr ⟨_, _, rfl, fun i v hv => by
    rw [cell_of_row _ _ (0 + i) _ _ _ (heap_alloc_new w (.cells cs.toArray t))]
    simpa using hv⟩

/-- A function of the machine that is drawn: where its instructions lie. -/
structure FnH where
  params : Int
  slots : Int
  a : Option Addr
  n : Nat
  c : Nat
def FnH.cells (f : FnH) : List Value := [.int .i64 f.params, .int .i64 f.slots, .slice f.a f.n f.c]
theorem cells_len : ∀ fs : List FnH, (fs.flatMap FnH.cells).length = fs.length * 3
  | [] => rfl
  | f :: fs => by
    have := cells_len fs
    simp only [List.flatMap_cons, List.length_append, List.length_cons, this]
    show 3 + _ = _
    omega
theorem cells_at : ∀ (fs : List FnH) (i : Nat) (f : FnH), fs[i]? = some f → (fs.flatMap FnH.cells)[i * 3]? = some (.int .i64 f.params) ∧ (fs.flatMap FnH.cells)[i * 3 + 1]? = some (.int .i64 f.slots) ∧ (fs.flatMap FnH.cells)[i * 3 + 2]? = some (.slice f.a f.n f.c)
  | [], _, _, h => by simp at h
  | g :: fs, 0, f, h => by simp at h; subst h; exact ⟨rfl, rfl, rfl⟩
  | g :: fs, i + 1, f, h => by
    obtain ⟨p0, p1, p2⟩ := cells_at fs i f (by simpa using h)
    have e : ∀ j, (((g :: fs).flatMap FnH.cells))[(i + 1) * 3 + j]? = (fs.flatMap FnH.cells)[i * 3 + j]? := by
      intro j
      show (g.cells ++ fs.flatMap FnH.cells)[(i + 1) * 3 + j]? = _
      have hl : g.cells.length = 3 := rfl
      rw [List.getElem?_append_right (by omega), hl]
      congr 1
      omega
    refine ⟨?_, ?_, ?_⟩
    · have := e 0; rw [Nat.add_zero, Nat.add_zero] at this; rw [this]; exact p0
    · rw [e 1]; exact p1
    · rw [e 2]; exact p2
/-- Instructions of the call's own: whatever they say. -/
def InsOwn (w : World) (lo : Nat) (a : Option Addr) (n c : Nat) : Prop := ∃ xs : List Int, w.ownsRow lo 41 5 (.slice a n c) n (xs.map (Value.int .i64))
/-- Functions of the call's own. -/
structure FnsOwn (w : World) (lo : Nat) (a : Option Addr) (n c : Nat) (fs : List FnH) : Prop where
  own : w.ownsRow lo 32 3 (.slice a n c) n (fs.flatMap FnH.cells)
  rows : ∀ f ∈ fs, InsOwn w lo f.a f.n f.c
  small : ∀ f ∈ fs, 1 ≤ f.n ∧ f.n ≤ 20
theorem FnsOwn.length {w : World} {lo : Nat} {a : Option Addr} {n c : Nat} {fs : List FnH} (h : FnsOwn w lo a n c fs) : fs.length = n := by
  have h1 := h.own.1
  have h2 := cells_len fs
  omega
theorem InsOwn.turned {w w' : World} {lo : Nat} {a : Option Addr} {n c : Nat} (h : InsOwn w lo a n c) {S : Nat → Prop} (ht : Turned S w w') (hS : ∀ k, (Value.slice a n c).ownBlock = some k → ¬ S k) : InsOwn w' lo a n c := by
  obtain ⟨xs, h⟩ := h
  exact ⟨xs, own_turned h ht hS⟩
theorem InsOwn.far {w w' : World} {lo : Nat} {a : Option Addr} {n c : Nat} (h : InsOwn w lo a n c) {S : Nat → Prop} (ht : Turned S w w') (hS : ∀ k, S k → k < lo ∨ w.heap.size ≤ k) : InsOwn w' lo a n c :=
  h.turned ht (fun k hk hs => by obtain ⟨xs, h⟩ := h; have := h.lt k hk; have := hS k hs; omega)
theorem FnsOwn.far {w w' : World} {lo : Nat} {a : Option Addr} {n c : Nat} {fs : List FnH} (h : FnsOwn w lo a n c fs) {S : Nat → Prop} (ht : Turned S w w') (hS : ∀ k, S k → k < lo ∨ w.heap.size ≤ k) : FnsOwn w' lo a n c fs :=
  ⟨own_turned h.own ht (fun k hk hs => by have := h.own.lt k hk; have := hS k hs; omega), fun f hf => (h.rows f hf).far ht hS, h.small⟩
/-- A block of instructions is none of functions. -/
theorem ins_ne_fns {w : World} {lo lo' : Nat} {a a' : Option Addr} {n c n' c' : Nat} {fs : List FnH} (h : InsOwn w lo a n c) (h' : w.ownsRow lo' 32 3 (.slice a' n' c') n' (fs.flatMap FnH.cells)) : ∀ k, (Value.slice a n c).ownBlock = some k → ¬ (Value.slice a' n' c').ownBlock = some k := by
  obtain ⟨xs, h⟩ := h
  exact own_ne h h' (by decide)
theorem ins_not {w : World} {lo : Nat} {a : Option Addr} {n c : Nat} (h : InsOwn w lo a n c) {b : Nat} {cs : Array Value} {t : TypeId} (hb : w.heap[b]? = some (.cells cs t (0, 0))) (ht : t ≠ 41) : ∀ k, (Value.slice a n c).ownBlock = some k → k ≠ b := by
  rintro k hk rfl
  obtain ⟨xs, h⟩ := h
  rcases h.2 with ⟨hv, _⟩ | ⟨g, c', cur, hv, _, hg, _⟩
  · rw [hv] at hk; cases hk
  · rw [hv] at hk
    simp only [Value.ownBlock, Option.some.injEq] at hk
    subst hk
    rw [hb] at hg
    simp only [Option.some.injEq, Obj.cells.injEq] at hg
    exact ht hg.2.1
theorem FnsOwn.push {w w' : World} {lo : Nat} {a a' : Option Addr} {n cap c' : Nat} {fs : List FnH} {f : FnH} (h : FnsOwn w lo a n cap fs) (hf : InsOwn w lo f.a f.n f.c) (hs : 1 ≤ f.n ∧ f.n ≤ 20)
    (hown : w'.ownsRow lo 32 3 (.slice a' (n + 1) c') (n + 1) (fs.flatMap FnH.cells ++ f.cells)) (hg : w.grownBy w' (Value.slice a n cap).ownBlock) : FnsOwn w' lo a' (n + 1) c' (fs ++ [f]) := by
  have ht := turned_of_grown hg (S := fun k => (Value.slice a n cap).ownBlock = some k) (fun k hk => hk)
  refine ⟨by simpa using hown, fun x hx => ?_, fun x hx => ?_⟩
  · rcases List.mem_append.1 hx with hx | hx
    · exact (h.rows x hx).turned ht (ins_ne_fns (h.rows x hx) h.own)
    · simp at hx
      subst hx
      exact hf.turned ht (ins_ne_fns hf h.own)
  · rcases List.mem_append.1 hx with hx | hx
    · exact h.small x hx
    · simp at hx
      subst hx
      exact hs

def minsCells (d : MinsD) : List Value := [.int .i64 d.op, .int .i64 d.fa, .int .i64 d.fb, .int .i64 d.fc, .int .i64 d.fn]
theorem chunks : ∀ (n : Nat) (xs : List Int), xs.length = n * 5 → ∃ ds : List MinsD, ds.length = n ∧ ds.flatMap minsCells = xs.map (Value.int .i64)
  | 0, xs, h => ⟨[], rfl, by have : xs = [] := List.length_eq_zero_iff.1 (by omega); subst this; rfl⟩
  | n + 1, xs, h => by
    match xs, h with
    | x0 :: x1 :: x2 :: x3 :: x4 :: rest, h =>
      obtain ⟨ds, h1, h2⟩ := chunks n rest (by simp at h; omega)
      exact ⟨⟨x0, x1, x2, x3, x4⟩ :: ds, by simp [h1], by simp [minsCells, h2]⟩
    | [], h => simp at h
    | [_], h => simp at h; omega
    | [_, _], h => simp at h; omega
    | [_, _, _], h => simp at h; omega
    | [_, _, _, _], h => simp at h; omega
theorem InsOwn.rd {w : World} {lo : Nat} {a : Option Addr} {n c : Nat} (h : InsOwn w lo a n c) : ∃ ds : List MinsD, ds.length = n ∧ SliceRd 5 MinsR w a n ds := by
  obtain ⟨xs, h⟩ := h
  obtain ⟨ds, h1, h2⟩ := chunks n xs (by have := h.1; simpa using this)
  refine ⟨ds, h1, h1, ds.map minsCells, ?_, by simpa using h1, ?_, ?_⟩
  · have := rowAt_of_own h
    rw [← h2, List.flatMap_def] at this
    exact this
  · intro cl hc
    obtain ⟨d, _, rfl⟩ := List.mem_map.1 hc
    rfl
  · intro i cl x hc hx
    rw [List.getElem?_map, hx] at hc
    simp only [Option.map_some, Option.some.injEq] at hc
    exact hc.symm
theorem fns_read {w : World} {lo : Nat} : ∀ fs : List FnH, (∀ f ∈ fs, InsOwn w lo f.a f.n f.c) → (∀ f ∈ fs, f.n ≤ 20) → ∃ ds : List MfnD, ds.length = fs.length ∧ sumOf szMfnD ds ≤ 50 * fs.length ∧ ∀ (i : Nat) (cl : List Value) (d : MfnD), (fs.map FnH.cells)[i]? = some cl → ds[i]? = some d → MfnR w cl d
  | [], _, _ => ⟨[], rfl, Nat.le_refl _, fun i cl d h => by simp at h⟩
  | f :: fs, hr, hs => by
    obtain ⟨ds, h1, h2, h3⟩ := fns_read fs (fun g hg => hr g (List.mem_cons_of_mem _ hg)) (fun g hg => hs g (List.mem_cons_of_mem _ hg))
    have hf := hr f List.mem_cons_self
    have hfs := hs f List.mem_cons_self
    obtain ⟨xs, g1, g2⟩ := hf.rd
    have hcap : (Value.slice f.a f.n f.c) = (Value.slice f.a f.n f.c) ∧ f.n ≤ maxLen ∧ (f.a = none → f.c = 0) := by
      obtain ⟨ys, hy⟩ := hf
      rcases hy.2 with ⟨hv, _⟩ | ⟨g, c', cur, hv, _, _, hnc, hcm, _⟩
      · simp only [Value.slice.injEq] at hv
        exact ⟨rfl, by rw [hv.2.1]; exact Nat.zero_le _, fun _ => hv.2.2⟩
      · simp only [Value.slice.injEq] at hv
        refine ⟨rfl, by omega, fun e => ?_⟩
        rw [hv.1] at e
        cases e
    refine ⟨⟨f.params, f.slots, xs⟩ :: ds, by simp [h1], ?_, ?_⟩
    · have e : szMfnD ⟨f.params, f.slots, xs⟩ ≤ 50 := by
        show szS szMinsD xs ≤ 50
        rw [szS_zero (sz := szMinsD) (fun _ => rfl), g1]
        omega
      unfold sumOf at *
      simp only [List.map_cons, List.sum_cons, List.length_cons]
      omega
    · intro i cl d hc hd
      cases i with
      | zero =>
        simp at hc hd
        subst hc hd
        exact ⟨f.a, f.c, by show f.cells = _; rw [FnH.cells, g1], ⟨by rw [g1]; exact hcap.2.1, hcap.2.2⟩, by rw [g1]; exact g2⟩
      | succ i => exact h3 i cl d (by simpa using hc) (by simpa using hd)
/-- What was drawn reads as a machine. -/
theorem FnsOwn.rd {w : World} {lo : Nat} {a : Option Addr} {n c : Nat} {fs : List FnH} (h : FnsOwn w lo a n c fs) (hn : n ≤ 3) : ∃ ds : List MfnD, ds.length = n ∧ szS szMfnD ds ≤ 1000 ∧ SliceRd 3 MfnR w a n ds ∧ (n ≤ c) ∧ n ≤ maxLen ∧ (a = none → c = 0) := by
  obtain ⟨ds, h1, h2, h3⟩ := fns_read fs h.rows (fun f hf => (h.small f hf).2)
  have hl := h.length
  refine ⟨ds, by omega, by unfold szS; omega, ⟨by omega, fs.map FnH.cells, ?_, by simpa using hl, ?_, h3⟩, ?_⟩
  · have := rowAt_of_own h.own
    rw [List.flatMap_def] at this
    exact this
  · intro cl hc
    obtain ⟨d, _, rfl⟩ := List.mem_map.1 hc
    rfl
  · rcases h.own.2 with ⟨hv, _⟩ | ⟨g, c', cur, hv, _, _, hnc, hcm, _⟩
    · simp only [Value.slice.injEq] at hv
      exact ⟨by omega, by rw [hv.2.1]; exact Nat.zero_le _, fun _ => hv.2.2⟩
    · simp only [Value.slice.injEq] at hv
      refine ⟨by omega, by omega, fun e => ?_⟩
      rw [hv.1] at e
      cases e

end Go.Proofs.YtdkafajmhgfkoaaDoor
