/-
  Expressions in memory of which it is known in which blocks they lie; lists of expressions that grow.
-/
import Derived.Test.YtccdmgncjlpebaaDoorEx
import Derived.Test.YtccdmgncjlpebaaDoorLaw

namespace Go.Proofs.YtccdmgncjlpebaaDoor
open Go.RowKit
set_option linter.unusedVariables false

/-- A list of parts lies in the blocks of S. -/
structure ListP (R : World → List Value → ExprD → Prop) (S : Nat → Prop) (w : World) (a : Option Addr) (xs : List ExprD) : Prop where
  rd : SliceRd 4 R w a xs.length xs
  blk : xs ≠ [] → ∃ b off, a = some ⟨b, off, none⟩ ∧ S b ∧ b < w.heap.size
/-- An expression, at most so deep, whose lists lie in the blocks of S. -/
def ExprP : Nat → (Nat → Prop) → World → List Value → ExprD → Prop
  | 0, _, _, _, _ => False
  | d + 1, S, w, cs, e => ∃ a c, cs = [.int .i64 e.op, .int .i64 e.n, .string e.name, .slice a e.kids.length c] ∧ (e.kids.length ≤ maxLen ∧ -9223372036854775808 ≤ e.op ∧ e.op ≤ 9223372036854775807) ∧ ListP (ExprP d S) S w a e.kids

theorem sliceRd_mono {R R' : World → List Value → ExprD → Prop} {w : World} {a : Option Addr} {n : Nat} {xs : List ExprD} (h : SliceRd 4 R w a n xs) (hR : ∀ cs x, x ∈ xs → R w cs x → R' w cs x) : SliceRd 4 R' w a n xs := by
  obtain ⟨h1, cells, h2, h3, h4, h5⟩ := h
  exact ⟨h1, cells, h2, h3, h4, fun i c x hc hx => hR c x (List.mem_of_getElem? hx) (h5 i c x hc hx)⟩
theorem ListP.mono {R R' : World → List Value → ExprD → Prop} {S S' : Nat → Prop} {w : World} {a : Option Addr} {xs : List ExprD} (h : ListP R S w a xs) (hR : ∀ cs x, x ∈ xs → R w cs x → R' w cs x) (hS : ∀ k, k < w.heap.size → S k → S' k) : ListP R' S' w a xs :=
  ⟨sliceRd_mono h.rd hR, fun hn => by obtain ⟨b, off, h1, h2, h3⟩ := h.blk hn; exact ⟨b, off, h1, hS b h3 h2, h3⟩⟩
theorem exprP_mono {S S' : Nat → Prop} {w : World} (hS : ∀ k, k < w.heap.size → S k → S' k) : ∀ {d : Nat} {cs : List Value} {e : ExprD}, ExprP d S w cs e → ExprP d S' w cs e
  | 0, _, _, h => h.elim
  | d + 1, cs, e, ⟨a, c, h1, h2, h3⟩ => ⟨a, c, h1, h2, h3.mono (fun _ _ _ h => exprP_mono hS h) hS⟩
theorem exprP_more : ∀ {d : Nat} {S : Nat → Prop} {w : World} {cs : List Value} {e : ExprD}, ExprP d S w cs e → ExprP (d + 1) S w cs e
  | 0, _, _, _, _, h => h.elim
  | d + 1, S, w, cs, e, ⟨a, c, h1, h2, h3⟩ => ⟨a, c, h1, h2, h3.mono (fun _ _ _ h => exprP_more h) (fun _ _ h => h)⟩
theorem exprP_le {d d' : Nat} (hd : d ≤ d') {S : Nat → Prop} {w : World} {cs : List Value} {e : ExprD} (h : ExprP d S w cs e) : ExprP d' S w cs e := by
  induction d' with
  | zero => obtain rfl : d = 0 := by omega
            exact h
  | succ n ih =>
    by_cases he : d = n + 1
    · subst he; exact h
    · exact exprP_more (ih (by omega))
theorem exprP_at : ∀ {d : Nat} {S : Nat → Prop} {w : World} {cs : List Value} {e : ExprD}, ExprP d S w cs e → ExprAt d w cs e
  | 0, _, _, _, _, h => h.elim
  | d + 1, S, w, cs, e, ⟨a, c, h1, h2, h3⟩ => ⟨a, c, h1, h2, sliceRd_mono h3.rd (fun _ _ _ h => exprP_at h)⟩
theorem listP_turned {R : World → List Value → ExprD → Prop} {S T : Nat → Prop} {w w' : World} {a : Option Addr} {xs : List ExprD} (h : ListP R S w a xs) (ht : Turned T w w') (hS : ∀ k, k < w.heap.size → S k → ¬ T k)
    (hR : ∀ cs x, x ∈ xs → R w cs x → R w' cs x) : ListP R S w' a xs := by
  refine ⟨?_, fun hn => by obtain ⟨b, off, h1, h2, h3⟩ := h.blk hn; exact ⟨b, off, h1, h2, Nat.lt_of_lt_of_le h3 ht.size⟩⟩
  obtain ⟨h1, cells, h2, h3, h4, h5⟩ := h.rd
  refine ⟨h1, cells, ?_, h3, h4, fun i c x hc hx => hR c x (List.mem_of_getElem? hx) (h5 i c x hc hx)⟩
  by_cases hn : xs = []
  · subst hn
    have : cells = [] := List.length_eq_zero_iff.1 h3
    subst this
    exact .inl rfl
  · obtain ⟨b, off, rfl, hSb, hb⟩ := h.blk hn
    have hbl := ht.block b hb (hS b hb hSb)
    rcases h2 with h0 | ⟨b', off', he, h2⟩
    · exact .inl h0
    · cases he
      exact .inr ⟨b, off, rfl, fun i v hv => (World.cell?_of_block hbl).trans (h2 i v hv)⟩
theorem exprP_turned {S T : Nat → Prop} {w w' : World} (ht : Turned T w w') (hS : ∀ k, k < w.heap.size → S k → ¬ T k) : ∀ {d : Nat} {cs : List Value} {e : ExprD}, ExprP d S w cs e → ExprP d S w' cs e
  | 0, _, _, h => h.elim
  | d + 1, cs, e, ⟨a, c, h1, h2, h3⟩ => ⟨a, c, h1, h2, listP_turned h3 ht hS (fun _ _ _ h => exprP_turned ht hS h)⟩
theorem exprP_below {S : Nat → Prop} {w w' : World} (hb : Below w.heap.size w w') {d : Nat} {cs : List Value} {e : ExprD} (h : ExprP d S w cs e) : ExprP d S w' cs e :=
  exprP_turned (T := fun k => w.heap.size ≤ k) (turned_of_below hb (fun k h1 _ => h1)) (fun k h1 _ h2 => by omega) h
theorem exprP_here {S : Nat → Prop} {w : World} {d : Nat} {cs : List Value} {e : ExprD} (h : ExprP d S w cs e) : ExprP d (fun k => S k ∧ k < w.heap.size) w cs e :=
  exprP_mono (fun _ h1 h2 => ⟨h2, h1⟩) h
theorem exprP_form {d : Nat} {S : Nat → Prop} {w : World} {cs : List Value} {e : ExprD} (h : ExprP d S w cs e) : ∃ a c, cs = [.int .i64 e.op, .int .i64 e.n, .string e.name, .slice a e.kids.length c] := by
  cases d with
  | zero => exact h.elim
  | succ d => obtain ⟨a, c, h1, _⟩ := h; exact ⟨a, c, h1⟩
theorem exprP_len {d : Nat} {S : Nat → Prop} {w : World} {cs : List Value} {e : ExprD} (h : ExprP d S w cs e) : cs.length = 4 := by
  obtain ⟨a, c, rfl⟩ := exprP_form h; rfl
theorem leafP {S : Nat → Prop} {w : World} (op n : Int) (s : ByteArray) (hop : -9223372036854775808 ≤ op ∧ op ≤ 9223372036854775807) (d : Nat) : ExprP (d + 1) S w [.int .i64 op, .int .i64 n, .string s, .slice none 0 0] (.mk op n s []) :=
  ⟨none, 0, rfl, ⟨by show (0 : Nat) ≤ maxLen; exact Nat.zero_le _, hop⟩, ⟨rfl, [], .inl rfl, rfl, by simp, by simp⟩, fun h => absurd rfl h⟩

theorem info_exprI : (Tryd.prog.info? 54).map (fun i => (i.zero, i.size, i.bytes)) = some (some (.agg #[.int .i64 0, .int .i64 0, .string ⟨#[]⟩, .slice none 0 0]), 4, 56) := by kernel_rfl
theorem und_exprsI : Tryd.prog.underlying 52 = some (.slice 54) := by kernel_rfl
section
variable {w : World} {ops : Array Oper} {rest : List Oper} {o : Oper} {a : Act} {Q : Exit → Act → World → Prop}
theorem step_app_expr {K : Act → World → Prop} {E : Prop} (hgd : o.guard = none) (s x : Operand) (ho : o.op = .call { callee := .builtin .append, args := #[s, x], argTypes := #[52, 52] })
    (base : Nat) (v : Value) (n : Nat) (xs : List Value) (hs : a.eval s = v) (hown : w.ownsRow base 54 4 v n xs)
    (ao : Option Addr) (c : Nat) (ys : List Value) (hx : a.eval x = .slice ao 1 c) (hrow : RowAt w ao ys) (hl : ys.length = 4) (hone : ∀ u ∈ ys, u.oneCell' = true)
    (hb : n + 1 ≤ 1099511627776) (hbase : base ≤ w.heap.size)
    (h : ∀ a' c' w', w'.ownsRow base 54 4 (.slice a' (n + 1) c') (n + 1) (xs ++ ys) → w.grownBy w' v.ownBlock →
      ((Value.slice a' (n + 1) c').ownBlock = v.ownBlock ∨ (Value.slice a' (n + 1) c').ownBlock = some w.heap.size) → K (a.put o.dst (.slice a' (n + 1) c')) w') :
    if Region.wanted o (yielded ops a.tmps) = true then Oper.wp Tryd.prog o a w K Q else E := by
  obtain ⟨i0, hi, hz0, hz1, hz2⟩ := info_parts info_exprI
  exact step_append_any hgd s x 52 ho base 54 i0 (.agg #[.int .i64 0, .int .i64 0, .string ⟨#[]⟩, .slice none 0 0]) 4 56 und_exprsI hi hz0 hz1 hz2 rfl (by decide) v n xs hs hown ao 1 c _ hx (by simp [hl]) hrow (by
    rintro rfl
    rcases hrow with h | ⟨_, _, h, _⟩
    · rw [h] at hl; simp at hl
    · cases h) hone (by unfold maxLen; omega) (by omega) hbase h
end
theorem oneCell_expr {a : Option Addr} {n c : Nat} {op k : Int} {s : ByteArray} : ∀ u ∈ [Value.int .i64 op, .int .i64 k, .string s, .slice a n c], u.oneCell' = true := by
  intro u hu
  simp at hu
  rcases hu with rfl | rfl | rfl | rfl <;> rfl

/-- A list that is being made: its row is the call's own, its elements lie elsewhere. -/
structure ListG (d : Nat) (S : Nat → Prop) (lo : Nat) (w : World) (a : Option Addr) (n c : Nat) (xs : List ExprD) : Prop where
  row : ∃ cells : List (List Value), w.ownsRow lo 54 4 (.slice a n c) n cells.flatten ∧ cells.length = n ∧ (∀ cl ∈ cells, cl.length = 4) ∧
    ∀ (i : Nat) cl x, cells[i]? = some cl → xs[i]? = some x → ExprP d (fun k => S k ∧ ¬ (Value.slice a n c).ownBlock = some k) w cl x
  length : xs.length = n
theorem ListG.nil (d : Nat) (S : Nat → Prop) (lo : Nat) (w : World) : ListG d S lo w none 0 0 [] :=
  ⟨⟨[], World.ownsRow_nil _ _ _ _, rfl, by simp, by simp⟩, rfl⟩
theorem ListG.turned {d : Nat} {S T : Nat → Prop} {lo : Nat} {w w' : World} {a : Option Addr} {n c : Nat} {xs : List ExprD} (h : ListG d S lo w a n c xs) (ht : Turned T w w') (h1 : ∀ k, (Value.slice a n c).ownBlock = some k → ¬ T k) (h2 : ∀ k, k < w.heap.size → S k → ¬ T k) : ListG d S lo w' a n c xs := by
  obtain ⟨⟨cells, k1, k2, k3, k4⟩, k5⟩ := h
  exact ⟨⟨cells, own_turned k1 ht h1, k2, k3, fun i cl x hc hx => exprP_turned ht (fun k hk hs => h2 k hk hs.1) (k4 i cl x hc hx)⟩, k5⟩
theorem ListG.wide {d d' : Nat} (hd : d ≤ d') {S S' : Nat → Prop} {lo : Nat} {w : World} {a : Option Addr} {n c : Nat} {xs : List ExprD} (h : ListG d S lo w a n c xs) (hS : ∀ k, k < w.heap.size → S k → S' k) : ListG d' S' lo w a n c xs := by
  obtain ⟨⟨cells, k1, k2, k3, k4⟩, k5⟩ := h
  exact ⟨⟨cells, k1, k2, k3, fun i cl x hc hx => exprP_le hd (exprP_mono (fun k h1 h2 => ⟨hS k h1 h2.1, h2.2⟩) (k4 i cl x hc hx))⟩, k5⟩
/-- The rows of a list that is being made. -/
def RowsG (d : Nat) (S : Nat → Prop) (lo : Nat) (w : World) (a : Option Addr) (n c : Nat) (xs : List ExprD) (cells : List (List Value)) : Prop :=
  w.ownsRow lo 54 4 (.slice a n c) n cells.flatten ∧ cells.length = n ∧ (∀ cl ∈ cells, cl.length = 4) ∧
    ∀ (i : Nat) cl x, cells[i]? = some cl → xs[i]? = some x → ExprP d (fun k => S k ∧ ¬ (Value.slice a n c).ownBlock = some k) w cl x
theorem ListG.rows {d : Nat} {S : Nat → Prop} {lo : Nat} {w : World} {a : Option Addr} {n c : Nat} {xs : List ExprD} (h : ListG d S lo w a n c xs) : ∃ cells, RowsG d S lo w a n c xs cells := h.row
theorem RowsG.below {d : Nat} {S : Nat → Prop} {lo : Nat} {w w' : World} {a : Option Addr} {n c : Nat} {xs : List ExprD} {cells : List (List Value)} (h : RowsG d S lo w a n c xs cells) (hb : Below w.heap.size w w') : RowsG d S lo w' a n c xs cells :=
  ⟨ownsRow_below h.1 hb, h.2.1, h.2.2.1, fun i cl x hc hx => exprP_below hb (h.2.2.2 i cl x hc hx)⟩
/-- One more was put at the end. -/
theorem RowsG.push {d : Nat} {S : Nat → Prop} {lo : Nat} {w w' : World} {a a' : Option Addr} {n c c' : Nat} {xs : List ExprD} {cl : List Value} {x : ExprD} {cells : List (List Value)} (h : RowsG d S lo w a n c xs cells) (k5 : xs.length = n) (hx : ExprP d (fun k => S k ∧ ¬ (Value.slice a n c).ownBlock = some k) w cl x)
    (hown : w'.ownsRow lo 54 4 (.slice a' (n + 1) c') (n + 1) (cells.flatten ++ cl)) (hg : w.grownBy w' (Value.slice a n c).ownBlock)
    (hl : (Value.slice a' (n + 1) c').ownBlock = (Value.slice a n c).ownBlock ∨ (Value.slice a' (n + 1) c').ownBlock = some w.heap.size) : ListG d S lo w' a' (n + 1) c' (xs ++ [x]) := by
  obtain ⟨k1, k2, k3, k4⟩ := h
  have ht := turned_of_grown hg (S := fun k => (Value.slice a n c).ownBlock = some k) (fun k hk => hk)
  have hkeep : ∀ {cl x}, ExprP d (fun k => S k ∧ ¬ (Value.slice a n c).ownBlock = some k) w cl x → ExprP d (fun k => S k ∧ ¬ (Value.slice a' (n + 1) c').ownBlock = some k) w' cl x := fun {cl x} h => by
    have h1 := exprP_turned ht (fun k _ h1 => h1.1.2) (exprP_here h)
    refine exprP_mono (fun k _ h2 => ⟨h2.1.1, fun e => ?_⟩) h1
    rcases hl with hl | hl
    · exact h2.1.2 (hl ▸ e)
    · rw [hl] at e
      have := Option.some.inj e
      omega
  refine ⟨⟨cells ++ [cl], ?_, by simp [k2], ?_, ?_⟩, by simp [k5]⟩
  · simpa using hown
  · intro q hq
    rcases List.mem_append.1 hq with hq | hq
    · exact k3 q hq
    · simp at hq
      subst hq
      exact exprP_len hx
  · intro i q y hq hy
    rcases Nat.lt_trichotomy i n with hi | hi | hi
    · rw [List.getElem?_append_left (by omega)] at hq hy
      exact hkeep (k4 i q y hq hy)
    · subst hi
      rw [List.getElem?_append_right (by omega), k2, Nat.sub_self] at hq
      rw [List.getElem?_append_right (by omega), k5, Nat.sub_self] at hy
      simp at hq hy
      subst hq hy
      exact hkeep hx
    · rw [List.getElem?_eq_none (by simp; omega)] at hq
      cases hq
theorem later_drew {w W : World} (h : Below w.heap.size w W) : Below w.heap.size w W.drew := h.drew
theorem later_alloc {w W : World} (h : Below w.heap.size w W) (o : Obj) : Below w.heap.size w (W.alloc o) := h.alloc h.size o
/-- The row and the elements, taken together. -/
theorem ListG.list {d : Nat} {S : Nat → Prop} {lo : Nat} {w : World} {a : Option Addr} {n c : Nat} {xs : List ExprD} (h : ListG d S lo w a n c xs) : ListP (ExprP d (fun k => S k ∨ lo ≤ k)) (fun k => S k ∨ lo ≤ k) w a xs := by
  obtain ⟨⟨cells, k1, k2, k3, k4⟩, k5⟩ := h
  refine ⟨⟨rfl, cells, rowAt_of_own k1, by omega, k3, fun i cl x hc hx => exprP_mono (fun k _ h => .inl h.1) (k4 i cl x hc hx)⟩, fun hn => ?_⟩
  rcases k1.2 with ⟨hv, h0⟩ | ⟨g, cap, cur, hv, hbg, hgg, _⟩
  · exfalso
    exact hn (List.length_eq_zero_iff.1 (by omega))
  · simp only [Value.slice.injEq] at hv
    exact ⟨g, 0, hv.1, .inr hbg, (Array.getElem?_eq_some_iff.1 hgg).1⟩
/-- The parts of an expression lie in a row of one's own, in these blocks. -/
def TopG (d lo hi : Nat) (w : World) (cs : List Value) (x : ExprD) : Prop :=
  ∃ a c, cs = [.int .i64 x.op, .int .i64 x.n, .string x.name, .slice a x.kids.length c] ∧ ListG d (fun b => lo ≤ b ∧ b < hi) lo w a x.kids.length c x.kids ∧ (∀ k, (Value.slice a x.kids.length c).ownBlock = some k → k < hi) ∧ x.kids.length ≤ d * 10 + 10
theorem TopG.leaf (d lo hi : Nat) (w : World) (op n : Int) (s : ByteArray) : TopG d lo hi w [.int .i64 op, .int .i64 n, .string s, .slice none 0 0] (.mk op n s []) :=
  ⟨none, 0, rfl, ListG.nil _ _ _ _, (fun k hk => by cases hk), Nat.zero_le _⟩
theorem ListG.low {d : Nat} {S : Nat → Prop} {lo lo' : Nat} {w : World} {a : Option Addr} {n c : Nat} {xs : List ExprD} (h : ListG d S lo w a n c xs) (hl : lo' ≤ lo) : ListG d S lo' w a n c xs := by
  obtain ⟨⟨cells, k1, k2⟩, k3⟩ := h
  exact ⟨⟨cells, own_lower k1 (fun k hk => by have := (k1.lt k hk).1; omega), k2⟩, k3⟩
theorem TopG.wide {d d' lo lo' hi hi' : Nat} {w : World} {cs : List Value} {x : ExprD} (h : TopG d lo hi w cs x) (hd : d ≤ d') (h1 : lo' ≤ lo) (h2 : hi ≤ hi') : TopG d' lo' hi' w cs x := by
  obtain ⟨a, c, k1, k2, k3⟩ := h
  exact ⟨a, c, k1, (k2.low h1).wide hd (fun k _ h => ⟨Nat.le_trans h1 h.1, Nat.lt_of_lt_of_le h.2 h2⟩), (fun k hk => Nat.lt_of_lt_of_le (k3.1 k hk) h2), by have := k3.2; omega⟩
theorem TopG.turned {d lo hi : Nat} {T : Nat → Prop} {w w' : World} {cs : List Value} {x : ExprD} (h : TopG d lo hi w cs x) (ht : Turned T w w') (hT : ∀ k, k < w.heap.size → lo ≤ k → k < hi → ¬ T k) : TopG d lo hi w' cs x := by
  obtain ⟨a, c, k1, k2, k3⟩ := h
  refine ⟨a, c, k1, k2.turned ht (fun k hk => ?_) (fun k hk hs => hT k hk hs.1 hs.2), k3⟩
  obtain ⟨⟨cells, g1, _⟩, _⟩ := k2
  have := g1.lt k hk
  exact hT k this.2 this.1 (k3.1 k hk)
theorem TopG.below {d lo hi : Nat} {w w' : World} {cs : List Value} {x : ExprD} (h : TopG d lo hi w cs x) (hb : Below w.heap.size w w') : TopG d lo hi w' cs x :=
  h.turned (T := fun k => w.heap.size ≤ k) (turned_of_below hb (fun k h1 _ => h1)) (fun k h1 _ _ h2 => by omega)
theorem TopG.of {d lo : Nat} {S : Nat → Prop} {w : World} {a : Option Addr} {c : Nat} {op n : Int} {s : ByteArray} {ks : List ExprD} (h : ListG d S lo w a ks.length c ks) (hS : ∀ k, k < w.heap.size → S k → lo ≤ k) (hk : ks.length ≤ d * 10 + 10) : TopG d lo w.heap.size w [.int .i64 op, .int .i64 n, .string s, .slice a ks.length c] (.mk op n s ks) := by
  refine ⟨a, c, rfl, h.wide (Nat.le_refl _) (fun k h1 h2 => ⟨hS k h1 h2, h1⟩), (fun k hk => ?_), hk⟩
  obtain ⟨⟨cells, g1, _⟩, _⟩ := h
  exact (g1.lt k hk).2
theorem listG_lit {d lo : Nat} {w : World} {cells : List (List Value)} {xs : List ExprD} (hlo : lo ≤ w.heap.size) (hc : ∀ c ∈ cells, c.length = 4) (hl : xs.length = cells.length) (hm : cells.length ≤ maxLen) (hx : ∀ (i : Nat) cl x, cells[i]? = some cl → xs[i]? = some x → ExprP d (fun k => lo ≤ k) w cl x) :
    ListG d (fun k => lo ≤ k) lo (w.alloc (.cells cells.flatten.toArray 54)) (some ⟨w.heap.size, 0, none⟩) cells.length cells.length xs := by
  have hf := flatten_len hc
  refine ⟨⟨cells, ⟨hf, .inr ⟨w.heap.size, cells.length, _, rfl, hlo, heap_alloc_new w _, Nat.le_refl _, hm, by simpa using hf, ?_⟩⟩, rfl, hc, fun i cl x h1 h2 => ?_⟩, hl⟩
  · show cells.flatten.take (cells.length * 4) = cells.flatten
    rw [List.take_of_length_le (by omega)]
  · have h3 := exprP_here (hx i cl x h1 h2)
    exact exprP_mono (fun k _ h => ⟨h.1, fun e => by simp only [Value.ownBlock, Option.some.injEq] at e; omega⟩) (exprP_below ((Below.refl _ _).alloc (Nat.le_refl _) _) h3)
theorem TopG.two {d lo : Nat} {w : World} {c1 c2 : List Value} {x1 x2 : ExprD} {op n : Int} {s : ByteArray} (hlo : lo ≤ w.heap.size) (h1 : ExprP d (fun k => lo ≤ k) w c1 x1) (h2 : ExprP d (fun k => lo ≤ k) w c2 x2) :
    TopG d lo (w.alloc (.cells (c1 ++ c2).toArray 54)).heap.size (w.alloc (.cells (c1 ++ c2).toArray 54)) [.int .i64 op, .int .i64 n, .string s, .slice (some ⟨w.heap.size, 0, none⟩) 2 2] (.mk op n s [x1, x2]) := by
  have h := listG_lit (cells := [c1, c2]) (xs := [x1, x2]) hlo (by intro c hc; simp at hc; rcases hc with rfl | rfl <;> first | exact exprP_len h1 | exact exprP_len h2) rfl (show 2 ≤ maxLen by decide) (fun i cl x g1 g2 => by
    match i with
    | 0 => cases g1; cases g2; exact h1
    | 1 => cases g1; cases g2; exact h2
    | i + 2 => cases g1)
  rw [show [c1, c2].flatten = c1 ++ c2 by simp] at h
  exact TopG.of (ks := [x1, x2]) h (fun k _ h => h) (show 2 ≤ d * 10 + 10 by omega)
theorem TopG.one {d lo : Nat} {w : World} {c1 : List Value} {x1 : ExprD} {op n : Int} {s : ByteArray} (hlo : lo ≤ w.heap.size) (h1 : ExprP d (fun k => lo ≤ k) w c1 x1) :
    TopG d lo (w.alloc (.cells c1.toArray 54)).heap.size (w.alloc (.cells c1.toArray 54)) [.int .i64 op, .int .i64 n, .string s, .slice (some ⟨w.heap.size, 0, none⟩) 1 1] (.mk op n s [x1]) := by
  have h := listG_lit (cells := [c1]) (xs := [x1]) hlo (by intro c hc; simp at hc; subst hc; exact exprP_len h1) rfl (show 1 ≤ maxLen by decide) (fun i cl x g1 g2 => by
    match i with
    | 0 => cases g1; cases g2; exact h1
    | i + 1 => cases g1)
  rw [show [c1].flatten = c1 by simp] at h
  exact TopG.of (ks := [x1]) h (fun k _ h => h) (show 1 ≤ d * 10 + 10 by omega)

end Go.Proofs.YtccdmgncjlpebaaDoor
