/-
  The reference draws programs, one in some bent (l3Bent): what its walk carries.
-/
import Derived.Test.YtccdmgncjlpebaaDoorGf
import Derived.Test.YtccdmgncjlpebaaDoorGi
import Derived.Deep.CutBlock

namespace Go.Proofs.YtccdmgncjlpebaaDoor
open Go.RowKit
set_option linter.unusedVariables false

section
variable {P : Program} {w : World}
theorem run_append_none_cap (base : Nat) (t ty e : TypeId) (i : TypeInfo) (size c : Nat) (ht : P.underlying t = some (.slice e)) (hi : P.info? e = some i)
    (v : Value) (n : Nat) (xs : List Value) (hown : w.ownsRow base e size v n xs) :
    (Builtin.append_ #[t, t] ty #[v, .slice none 0 c]).run P w = .ok v w := by
  rcases hown.2 with ⟨rfl, rfl⟩ | ⟨g, cap, cur, rfl, _, _, hnc, _⟩
  · simp [Builtin.append_, run_underlying ht, sizeOf, typeInfo, hi, Builtin.lenOf, Builtin.firstCells]
  · simp [Builtin.append_, run_underlying ht, sizeOf, typeInfo, hi, Builtin.lenOf, Builtin.firstCells, hnc, storeCells]
/-- append, whatever the room of an empty list is that is appended. -/
theorem run_append_free (w : World) (base : Nat) (t ty e : TypeId) (i : TypeInfo) (z : Value) (size bytes : Nat) (ht : P.underlying t = some (.slice e)) (hi : P.info? e = some i) (hz : i.zero = some z)
    (hsize : i.size = size) (hby : i.bytes = bytes) (hzs : z.cells.size = size) (hsz : 0 < size)
    (v : Value) (n : Nat) (xs : List Value) (hown : w.ownsRow base e size v n xs)
    (ao : Option Addr) (m c : Nat) (news : List Value) (hl : news.length = m * size) (hrow : RowAt w ao news) (h1 : ∀ u ∈ news, u.oneCell' = true)
    (h63 : n + m ≤ maxLen) (hbytes : (n + m) * bytes ≤ 140737488355328) (hbase : base ≤ w.heap.size) :
    ∃ a' c' w', (Builtin.append_ #[t, t] ty #[v, .slice ao m c]).run P w = .ok (.slice a' (n + m) c') w' ∧ w'.ownsRow base e size (.slice a' (n + m) c') (n + m) (xs ++ news) ∧
      w.grownBy w' v.ownBlock ∧ ((Value.slice a' (n + m) c').ownBlock = v.ownBlock ∨ (Value.slice a' (n + m) c').ownBlock = some w.heap.size) := by
  cases ao with
  | some ad => exact run_append_any w base t ty e i z size bytes ht hi hz hsize hby hzs hsz v n xs hown (some ad) m c news hl hrow (by rintro ⟨⟩) h1 h63 hbytes hbase
  | none =>
    have hn : news = [] := by
      rcases hrow with h | ⟨_, _, h, _⟩
      · exact h
      · cases h
    subst hn
    have hm : m = 0 := by
      rcases Nat.eq_zero_or_pos m with h | h
      · exact h
      · have := Nat.mul_pos h hsz
        simp at hl; omega
    subst hm
    have hrun := run_append_none_cap (P := P) base t ty e i size c ht hi v n xs hown
    rcases hown.2 with ⟨rfl, hn⟩ | ⟨g, cap, cur, rfl, _⟩
    · subst hn
      exact ⟨none, 0, w, hrun, by simpa using hown, World.grownBy.refl _ _, .inl rfl⟩
    · exact ⟨_, _, w, hrun, by simpa using hown, World.grownBy.refl _ _, .inl rfl⟩
theorem wpList_append_free {ops : Array Oper} {rest : List Oper} {o : Oper} {a : Act} {Q : Exit → Act → World → Prop} (hgd : o.guard = none) (s x : Operand) (t : TypeId)
    (ho : o.op = .call { callee := .builtin .append, args := #[s, x], argTypes := #[t, t] })
    (base : Nat) (e : TypeId) (i : TypeInfo) (z : Value) (size bytes : Nat) (ht : P.underlying t = some (.slice e)) (hi : P.info? e = some i) (hz : i.zero = some z)
    (hsize : i.size = size) (hby : i.bytes = bytes) (hzs : z.cells.size = size) (hsz : 0 < size)
    (v : Value) (n : Nat) (xs : List Value) (hs : a.eval s = v) (hown : w.ownsRow base e size v n xs)
    (ao : Option Addr) (m c : Nat) (news : List Value) (hx : a.eval x = .slice ao m c) (hl : news.length = m * size) (hrow : RowAt w ao news) (h1 : ∀ u ∈ news, u.oneCell' = true)
    (h63 : n + m ≤ maxLen) (hbytes : (n + m) * bytes ≤ 140737488355328) (hbase : base ≤ w.heap.size)
    (h : ∀ a' c' w', w'.ownsRow base e size (.slice a' (n + m) c') (n + m) (xs ++ news) → w.grownBy w' v.ownBlock →
      ((Value.slice a' (n + m) c').ownBlock = v.ownBlock ∨ (Value.slice a' (n + m) c').ownBlock = some w.heap.size) → wpList P ops Q rest (a.put o.dst (.slice a' (n + m) c')) w') : wpList P ops Q (o :: rest) a w := by
  refine wpList_plain hgd fun K hK => ?_
  obtain ⟨a', c', w', hr, h2, h3, h4⟩ := run_append_free (P := P) w base t o.type e i z size bytes ht hi hz hsize hby hzs hsz v n xs hown ao m c news hl hrow h1 h63 hbytes hbase
  unfold Oper.wp execOp
  simp only [ho, resolve, invoke, builtin, Sem.run_bind, Sem.run_pure, Result.andThen_ok, List.map_toArray, List.map_cons, List.map_nil, hs, hx, hr]
  exact hK _ _ (h a' c' w' h2 h3 h4)
theorem step_append_free {ops : Array Oper} {o : Oper} {a : Act} {K : Act → World → Prop} {Q : Exit → Act → World → Prop} {E : Prop} (hgd : o.guard = none) (s x : Operand) (t : TypeId)
    (ho : o.op = .call { callee := .builtin .append, args := #[s, x], argTypes := #[t, t] })
    (base : Nat) (e : TypeId) (i : TypeInfo) (z : Value) (size bytes : Nat) (ht : P.underlying t = some (.slice e)) (hi : P.info? e = some i) (hz : i.zero = some z)
    (hsize : i.size = size) (hby : i.bytes = bytes) (hzs : z.cells.size = size) (hsz : 0 < size)
    (v : Value) (n : Nat) (xs : List Value) (hs : a.eval s = v) (hown : w.ownsRow base e size v n xs)
    (ao : Option Addr) (m c : Nat) (news : List Value) (hx : a.eval x = .slice ao m c) (hl : news.length = m * size) (hrow : RowAt w ao news) (h1 : ∀ u ∈ news, u.oneCell' = true)
    (h63 : n + m ≤ maxLen) (hbytes : (n + m) * bytes ≤ 140737488355328) (hbase : base ≤ w.heap.size)
    (h : ∀ a' c' w', w'.ownsRow base e size (.slice a' (n + m) c') (n + m) (xs ++ news) → w.grownBy w' v.ownBlock →
      ((Value.slice a' (n + m) c').ownBlock = v.ownBlock ∨ (Value.slice a' (n + m) c').ownBlock = some w.heap.size) → K (a.put o.dst (.slice a' (n + m) c')) w') :
    if Region.wanted o (yielded ops a.tmps) = true then Oper.wp P o a w K Q else E := by
  have hw : Region.wanted o (yielded ops a.tmps) = true := by simp [Region.wanted, hgd]
  rw [if_pos hw]
  obtain ⟨a', c', w', hr, h2, h3, h4⟩ := run_append_free (P := P) w base t o.type e i z size bytes ht hi hz hsize hby hzs hsz v n xs hown ao m c news hl hrow h1 h63 hbytes hbase
  unfold Oper.wp execOp
  simp only [ho, resolve, invoke, builtin, Sem.run_bind, Sem.run_pure, Result.andThen_ok, List.map_toArray, List.map_cons, List.map_nil, hs, hx, hr]
  exact h a' c' w' h2 h3 h4
end

theorem info_fnH : (Tryd.prog.info? 32).map (fun i => (i.zero, i.size, i.bytes)) = some (some (.agg #[.string ⟨#[]⟩, .slice none 0 0, .slice none 0 0]), 3, 64) := by kernel_rfl
theorem und_fnsH : Tryd.prog.underlying 23 = some (.slice 32) := by kernel_rfl
theorem info_stmtH : (Tryd.prog.info? 57).map (fun i => (i.zero, i.size, i.bytes)) = some (some (.agg #[.int .i64 0, .string ⟨#[]⟩, .slice none 0 0, .slice none 0 0, .slice none 0 0]), 5, 96) := by kernel_rfl
theorem und_stmtsH : Tryd.prog.underlying 30 = some (.slice 57) := by kernel_rfl
theorem info_strH : (Tryd.prog.info? 9).map (fun i => (i.zero, i.size, i.bytes)) = some (some (.string ⟨#[]⟩), 1, 16) := by kernel_rfl
theorem und_strsH : Tryd.prog.underlying 29 = some (.slice 9) := by kernel_rfl
section
variable {w : World} {ops : Array Oper} {rest : List Oper} {o : Oper} {a : Act} {Q : Exit → Act → World → Prop}
theorem app_fnF (hgd : o.guard = none) (s x : Operand) (ho : o.op = .call { callee := .builtin .append, args := #[s, x], argTypes := #[23, 23] })
    (base : Nat) (v : Value) (n : Nat) (xs : List Value) (hs : a.eval s = v) (hown : w.ownsRow base 32 3 v n xs)
    (ao : Option Addr) (m c : Nat) (cells : List (List Value)) (hx : a.eval x = .slice ao m c) (hrow : RowAt w ao cells.flatten) (hm : cells.length = m) (hl : ∀ cl ∈ cells, cl.length = 3) (hone : ∀ cl ∈ cells, ∀ u ∈ cl, u.oneCell' = true)
    (hb : n + m ≤ 1099511627776) (hbase : base ≤ w.heap.size)
    (h : ∀ a' c' w', w'.ownsRow base 32 3 (.slice a' (n + m) c') (n + m) (xs ++ cells.flatten) → w.grownBy w' v.ownBlock →
      ((Value.slice a' (n + m) c').ownBlock = v.ownBlock ∨ (Value.slice a' (n + m) c').ownBlock = some w.heap.size) → wpList Tryd.prog ops Q rest (a.put o.dst (.slice a' (n + m) c')) w') : wpList Tryd.prog ops Q (o :: rest) a w := by
  obtain ⟨i0, hi, hz0, hz1, hz2⟩ := info_parts info_fnH
  exact wpList_append_free hgd s x 23 ho base 32 i0 (.agg #[.string ⟨#[]⟩, .slice none 0 0, .slice none 0 0]) 3 64 und_fnsH hi hz0 hz1 hz2 rfl (by decide) v n xs hs hown ao m c _ hx (by rw [flat_len hl, hm]) hrow (by
    intro u hu
    obtain ⟨cl, h1, h2⟩ := List.mem_flatten.1 hu
    exact hone cl h1 u h2) (by unfold maxLen; omega) (by omega) hbase h
theorem step_fnF {K : Act → World → Prop} {E : Prop} (hgd : o.guard = none) (s x : Operand) (ho : o.op = .call { callee := .builtin .append, args := #[s, x], argTypes := #[23, 23] })
    (base : Nat) (v : Value) (n : Nat) (xs : List Value) (hs : a.eval s = v) (hown : w.ownsRow base 32 3 v n xs)
    (ao : Option Addr) (m c : Nat) (cells : List (List Value)) (hx : a.eval x = .slice ao m c) (hrow : RowAt w ao cells.flatten) (hm : cells.length = m) (hl : ∀ cl ∈ cells, cl.length = 3) (hone : ∀ cl ∈ cells, ∀ u ∈ cl, u.oneCell' = true)
    (hb : n + m ≤ 1099511627776) (hbase : base ≤ w.heap.size)
    (h : ∀ a' c' w', w'.ownsRow base 32 3 (.slice a' (n + m) c') (n + m) (xs ++ cells.flatten) → w.grownBy w' v.ownBlock →
      ((Value.slice a' (n + m) c').ownBlock = v.ownBlock ∨ (Value.slice a' (n + m) c').ownBlock = some w.heap.size) → K (a.put o.dst (.slice a' (n + m) c')) w') : if Region.wanted o (yielded ops a.tmps) = true then Oper.wp Tryd.prog o a w K Q else E := by
  obtain ⟨i0, hi, hz0, hz1, hz2⟩ := info_parts info_fnH
  exact step_append_free hgd s x 23 ho base 32 i0 (.agg #[.string ⟨#[]⟩, .slice none 0 0, .slice none 0 0]) 3 64 und_fnsH hi hz0 hz1 hz2 rfl (by decide) v n xs hs hown ao m c _ hx (by rw [flat_len hl, hm]) hrow (by
    intro u hu
    obtain ⟨cl, h1, h2⟩ := List.mem_flatten.1 hu
    exact hone cl h1 u h2) (by unfold maxLen; omega) (by omega) hbase h
theorem app_stmtF (hgd : o.guard = none) (s x : Operand) (ho : o.op = .call { callee := .builtin .append, args := #[s, x], argTypes := #[30, 30] })
    (base : Nat) (v : Value) (n : Nat) (xs : List Value) (hs : a.eval s = v) (hown : w.ownsRow base 57 5 v n xs)
    (ao : Option Addr) (m c : Nat) (cells : List (List Value)) (hx : a.eval x = .slice ao m c) (hrow : RowAt w ao cells.flatten) (hm : cells.length = m) (hl : ∀ cl ∈ cells, cl.length = 5) (hone : ∀ cl ∈ cells, ∀ u ∈ cl, u.oneCell' = true)
    (hb : n + m ≤ 1099511627776) (hbase : base ≤ w.heap.size)
    (h : ∀ a' c' w', w'.ownsRow base 57 5 (.slice a' (n + m) c') (n + m) (xs ++ cells.flatten) → w.grownBy w' v.ownBlock →
      ((Value.slice a' (n + m) c').ownBlock = v.ownBlock ∨ (Value.slice a' (n + m) c').ownBlock = some w.heap.size) → wpList Tryd.prog ops Q rest (a.put o.dst (.slice a' (n + m) c')) w') : wpList Tryd.prog ops Q (o :: rest) a w := by
  obtain ⟨i0, hi, hz0, hz1, hz2⟩ := info_parts info_stmtH
  exact wpList_append_free hgd s x 30 ho base 57 i0 (.agg #[.int .i64 0, .string ⟨#[]⟩, .slice none 0 0, .slice none 0 0, .slice none 0 0]) 5 96 und_stmtsH hi hz0 hz1 hz2 rfl (by decide) v n xs hs hown ao m c _ hx (by rw [flat_len hl, hm]) hrow (by
    intro u hu
    obtain ⟨cl, h1, h2⟩ := List.mem_flatten.1 hu
    exact hone cl h1 u h2) (by unfold maxLen; omega) (by omega) hbase h
theorem step_stmtF {K : Act → World → Prop} {E : Prop} (hgd : o.guard = none) (s x : Operand) (ho : o.op = .call { callee := .builtin .append, args := #[s, x], argTypes := #[30, 30] })
    (base : Nat) (v : Value) (n : Nat) (xs : List Value) (hs : a.eval s = v) (hown : w.ownsRow base 57 5 v n xs)
    (ao : Option Addr) (m c : Nat) (cells : List (List Value)) (hx : a.eval x = .slice ao m c) (hrow : RowAt w ao cells.flatten) (hm : cells.length = m) (hl : ∀ cl ∈ cells, cl.length = 5) (hone : ∀ cl ∈ cells, ∀ u ∈ cl, u.oneCell' = true)
    (hb : n + m ≤ 1099511627776) (hbase : base ≤ w.heap.size)
    (h : ∀ a' c' w', w'.ownsRow base 57 5 (.slice a' (n + m) c') (n + m) (xs ++ cells.flatten) → w.grownBy w' v.ownBlock →
      ((Value.slice a' (n + m) c').ownBlock = v.ownBlock ∨ (Value.slice a' (n + m) c').ownBlock = some w.heap.size) → K (a.put o.dst (.slice a' (n + m) c')) w') : if Region.wanted o (yielded ops a.tmps) = true then Oper.wp Tryd.prog o a w K Q else E := by
  obtain ⟨i0, hi, hz0, hz1, hz2⟩ := info_parts info_stmtH
  exact step_append_free hgd s x 30 ho base 57 i0 (.agg #[.int .i64 0, .string ⟨#[]⟩, .slice none 0 0, .slice none 0 0, .slice none 0 0]) 5 96 und_stmtsH hi hz0 hz1 hz2 rfl (by decide) v n xs hs hown ao m c _ hx (by rw [flat_len hl, hm]) hrow (by
    intro u hu
    obtain ⟨cl, h1, h2⟩ := List.mem_flatten.1 hu
    exact hone cl h1 u h2) (by unfold maxLen; omega) (by omega) hbase h
theorem app_strF (hgd : o.guard = none) (s x : Operand) (ho : o.op = .call { callee := .builtin .append, args := #[s, x], argTypes := #[29, 29] })
    (base : Nat) (v : Value) (n : Nat) (xs : List Value) (hs : a.eval s = v) (hown : w.ownsRow base 9 1 v n xs)
    (ao : Option Addr) (m c : Nat) (cells : List (List Value)) (hx : a.eval x = .slice ao m c) (hrow : RowAt w ao cells.flatten) (hm : cells.length = m) (hl : ∀ cl ∈ cells, cl.length = 1) (hone : ∀ cl ∈ cells, ∀ u ∈ cl, u.oneCell' = true)
    (hb : n + m ≤ 1099511627776) (hbase : base ≤ w.heap.size)
    (h : ∀ a' c' w', w'.ownsRow base 9 1 (.slice a' (n + m) c') (n + m) (xs ++ cells.flatten) → w.grownBy w' v.ownBlock →
      ((Value.slice a' (n + m) c').ownBlock = v.ownBlock ∨ (Value.slice a' (n + m) c').ownBlock = some w.heap.size) → wpList Tryd.prog ops Q rest (a.put o.dst (.slice a' (n + m) c')) w') : wpList Tryd.prog ops Q (o :: rest) a w := by
  obtain ⟨i0, hi, hz0, hz1, hz2⟩ := info_parts info_strH
  exact wpList_append_free hgd s x 29 ho base 9 i0 (.string ⟨#[]⟩) 1 16 und_strsH hi hz0 hz1 hz2 rfl (by decide) v n xs hs hown ao m c _ hx (by rw [flat_len hl, hm]) hrow (by
    intro u hu
    obtain ⟨cl, h1, h2⟩ := List.mem_flatten.1 hu
    exact hone cl h1 u h2) (by unfold maxLen; omega) (by omega) hbase h
end

/-! ### a list is copied, and put to -/
section
variable {α : Type} {s : Nat} {R : InRel α} {e : TypeId} {S S0 : Nat → Prop} {lo n c c' : Nat} {w w' : World} {a a' : Option Addr} {xs : List α}
/-- The rows of a list. -/
theorem ListK.rows (h : ListK s R S w a xs) : ∃ cells : List (List Value), RowAt w a cells.flatten ∧ cells.length = xs.length ∧ (∀ cl ∈ cells, cl.length = s) ∧ ∀ (i : Nat) cl x, cells[i]? = some cl → xs[i]? = some x → R S w cl x := h.rd.2
/-- append onto a list of nothing. -/
theorem GrowK.copied (hR : Stays s R) {cells : List (List Value)} (h : w.ownsRow lo e s (.slice a 0 c) 0 []) (hm : cells.length = xs.length) (hc : ∀ cl ∈ cells, cl.length = s) (hx : ∀ (i : Nat) cl x, cells[i]? = some cl → xs[i]? = some x → R S0 w cl x) (hS : ∀ k, S0 k → S k ∧ k < lo)
    (hown : w'.ownsRow lo e s (.slice a' xs.length c') xs.length cells.flatten) (hg : w.grownBy w' (Value.slice a 0 c).ownBlock)
    (hl : (Value.slice a' xs.length c').ownBlock = (Value.slice a 0 c).ownBlock ∨ (Value.slice a' xs.length c').ownBlock = some w.heap.size) : GrowK s R e S lo w' a' xs.length c' xs := by
  have h0 : RowsK s R e S lo w a 0 c [] [] := ⟨h, rfl, by simp, by simp⟩
  have := RowsK.pushes hR h0 rfl (cls := cells) (ys := xs) hm hc (fun i cl x h1 h2 => hR.mono (fun k _ hk => ⟨(hS k hk).1, fun e => by have := (h.lt k e).1; have := (hS k hk).2; omega⟩) (hx i cl x h1 h2)) (w' := w') (a' := a') (c' := c') (by rw [Nat.zero_add]; simpa using hown) hg (by rw [Nat.zero_add]; exact hl)
  rw [Nat.zero_add, List.nil_append] at this
  exact this
/-- One more is put at the end. -/
theorem GrowK.one (hR : Stays s R) {cells : List (List Value)} {cl : List Value} {x : α} (h : RowsK s R e S lo w a xs.length c xs cells) (hx : R (fun k => S k ∧ ¬ (Value.slice a xs.length c).ownBlock = some k) w cl x)
    (hown : w'.ownsRow lo e s (.slice a' (xs.length + 1) c') (xs.length + 1) (cells.flatten ++ [cl].flatten)) (hg : w.grownBy w' (Value.slice a xs.length c).ownBlock)
    (hl : (Value.slice a' (xs.length + 1) c').ownBlock = (Value.slice a xs.length c).ownBlock ∨ (Value.slice a' (xs.length + 1) c').ownBlock = some w.heap.size) : GrowK s R e S lo w' a' (xs.length + 1) c' (xs ++ [x]) :=
  RowsK.pushes hR h rfl (cls := [cl]) (ys := [x]) rfl (by intro d hd; simp at hd; subst hd; exact hR.len hx) (fun i d y h1 h2 => by
    match i with
    | 0 => cases h1; cases h2; exact hx
    | i + 1 => cases h1) hown hg hl
theorem GrowK.addr (h : GrowK s R e S lo w a n c xs) (hn : 0 < n) : ∃ g, a = some ⟨g, 0, none⟩ ∧ lo ≤ g := by
  obtain ⟨cells, k1, -⟩ := h.row
  rcases k1.2 with ⟨hv, h0⟩ | ⟨g, cap, cur, hv, hbg, _⟩
  · omega
  · simp only [Value.slice.injEq] at hv
    exact ⟨g, hv.1, hbg⟩
/-- The cells of an element, and what becomes of the list when they are written. -/
theorem GrowK.put (hR : Stays s R) {g j : Nat} (h : GrowK s R e S lo w (some ⟨g, 0, none⟩) n c xs) (hj : j < n) :
    (∃ d : List Value, d.length = s ∧ ∀ (q : Nat) v, d[q]? = some v → w.cell? ⟨g, j * s + q, none⟩ = some v) ∧ (∀ q, w.frozen? ⟨g, q, none⟩ = false) ∧
      ∀ (d' : List Value) (x : α), R (fun k => S k ∧ k ≠ g) w d' x → GrowK s R e S lo (w.setCells g (j * s) d') (some ⟨g, 0, none⟩) n c (xs.set j x) ∧ Turned (fun k => k = g) w (w.setCells g (j * s) d') := by
  obtain ⟨⟨cells, k1, k2, k3, k4⟩, k5⟩ := h
  have hcd : cells[j]? = some (cells[j]'(by omega)) := List.getElem?_eq_getElem _
  have hsplit : ∀ d', cells.set j d' = cells.take j ++ d' :: cells.drop (j + 1) := fun d' => List.set_eq_take_append_cons_drop .. |>.trans (by rw [if_pos (by omega)])
  have hself : cells = cells.take j ++ cells[j]'(by omega) :: cells.drop (j + 1) := by rw [← hsplit]; simp
  have hpl : (cells.take j).flatten.length = j * s := by
    rw [flat_len (s := s) (fun d hd => k3 d (List.mem_of_mem_take hd)), List.length_take]
    congr 1; omega
  have hdl := k3 _ (List.getElem_mem (show j < cells.length by omega))
  have hk : w.ownsRow lo e s (.slice (some ⟨g, 0, none⟩) n c) n ((cells.take j).flatten ++ cells[j]'(by omega) ++ (cells.drop (j + 1)).flatten) := by
    have hf : cells.flatten = (cells.take j).flatten ++ cells[j]'(by omega) ++ (cells.drop (j + 1)).flatten := by
      have h9 := congrArg List.flatten hself
      rw [List.flatten_append, List.flatten_cons, ← List.append_assoc] at h9
      exact h9
    rw [← hf]; exact k1
  refine ⟨⟨_, hdl, fun q v hv => ?_⟩, fun q => k1.frozenAt q, fun d' x hx => ?_⟩
  · have hq := (List.getElem?_eq_some_iff.1 hv).1
    have hl := hk.1
    simp only [List.length_append] at hl
    rw [hk.cellAt (j * s + q) (by omega), List.append_assoc, List.getElem?_append_right (by omega), hpl, Nat.add_sub_cancel_left, List.getElem?_append_left hq]
    exact hv
  · have hd' := hR.len hx
    have h1 := own_setCells (vs := d') (o := j * s) hpl (by omega) hk
    have ht : Turned (fun k => k = g) w (w.setCells g (j * s) d') := turned_setCells d' w (j * s)
    refine ⟨⟨⟨cells.set j d', ?_, by simp [k2], fun q hq => ?_, fun i q y hq hy => ?_⟩, by simp [k5]⟩, ht⟩
    · rw [hsplit, List.flatten_append, List.flatten_cons, ← List.append_assoc]
      exact h1.1
    · rcases List.mem_or_eq_of_mem_set hq with hq | rfl
      · exact k3 q hq
      · exact hd'
    · have hown : (Value.slice (some ⟨g, 0, none⟩) n c).ownBlock = some g := rfl
      by_cases hij : i = j
      · subst hij
        rw [List.getElem?_set_self (by omega)] at hq hy
        cases hq; cases hy
        exact hR.turned ht (fun k _ h2 h3 => h2.2 (by rw [hown]; rw [show k = g from h3])) (hR.mono (fun k _ h2 => ⟨h2.1, fun e => h2.2 (by rw [hown] at e; exact (Option.some.inj e).symm)⟩) hx)
      · rw [List.getElem?_set_ne (by omega)] at hq hy
        exact hR.turned ht (fun k _ h2 h3 => h2.2 (by rw [hown]; rw [show k = g from h3])) (k4 i q y hq hy)
end

/-! ### what l3Bent carries -/
def BS (w : World) (rb pb fb lo : Nat) : Nat → Prop := fun k => w.heap.size ≤ k ∧ k < lo ∧ k ≠ rb ∧ k ≠ pb ∧ k ≠ fb
structure BentSt (w0 w : World) (br rb pb fb lo : Nat) (a : Option Addr) (len cap : Nat) (bs : List Int) (u : Nat) (pa : Option Addr) (pc : Nat) (ps : List FnD) (fpa : Option Addr) (fpc : Nat) (fba : Option Addr) (fbc : Nat) (f : FnD) (wr : World) : Prop where
  rd : ∃ q, q ≤ u ∧ Rd w0 wr br a len cap bs q
  t : TurnR br w wr
  lt : br < w.heap.size ∧ w0.heap.size ≤ w.heap.size ∧ w.heap.size ≤ rb ∧ w.heap.size ≤ pb ∧ w.heap.size ≤ fb ∧ rb < lo ∧ pb < lo ∧ fb < lo ∧ rb ≠ pb ∧ rb ≠ fb ∧ pb ≠ fb ∧ lo ≤ wr.heap.size
  rrow : wr.heap[rb]? = some (.cells #[.slice none 0 0] 25 (0, 0))
  prow : wr.heap[pb]? = some (.cells #[.slice pa ps.length pc] 25 (0, 0))
  frow : wr.heap[fb]? = some (.cells #[.string f.name, .slice fpa f.params.length fpc, .slice fba f.body.length fbc] 32 (0, 0))
  plist : ListK 3 (FnP 20) (BS w rb pb fb lo) wr pa ps
  params : ListK 1 strP (BS w rb pb fb lo) wr fpa f.params
  body : ListK 5 (StmtP 20) (BS w rb pb fb lo) wr fba f.body
  name : f.name.size ≤ maxLen
section
variable {w0 w : World} {br rb pb fb lo : Nat} {a : Option Addr} {len cap : Nat} {bs : List Int} {u u' : Nat} {pa : Option Addr} {pc : Nat} {ps : List FnD} {fpa : Option Addr} {fpc : Nat} {fba : Option Addr} {fbc : Nat} {f : FnD} {wr w' : World}
theorem BentSt.more (h : BentSt w0 w br rb pb fb lo a len cap bs u pa pc ps fpa fpc fba fbc f wr) (hu : u ≤ u') : BentSt w0 w br rb pb fb lo a len cap bs u' pa pc ps fpa fpc fba fbc f wr := by
  obtain ⟨q, h1, h2⟩ := h.rd
  exact ⟨⟨q, by omega, h2⟩, h.t, h.lt, h.rrow, h.prow, h.frow, h.plist, h.params, h.body, h.name⟩
theorem BentSt.step {T : Nat → Prop} (h : BentSt w0 w br rb pb fb lo a len cap bs u pa pc ps fpa fpc fba fbc f wr) (ht : Turned T wr w') (hT : ∀ k, k < wr.heap.size → T k → k = br ∨ lo ≤ k) (hr : ∃ q, q ≤ u' ∧ Rd w0 w' br a len cap bs q) : BentSt w0 w br rb pb fb lo a len cap bs u' pa pc ps fpa fpc fba fbc f w' := by
  have hl := h.lt
  have hk : ∀ k, k < wr.heap.size → BS w rb pb fb lo k → ¬ T k := fun k h1 h2 h3 => by have := hT k h1 h3; obtain ⟨g1, g2, -⟩ := h2; omega
  have hb : ∀ k, k < wr.heap.size → w.heap.size ≤ k → k < lo → w'.heap[k]? = wr.heap[k]? := fun k h1 h2 h3 => ht.block k h1 (fun e => by have := hT k h1 e; omega)
  refine ⟨hr, ?_, ⟨hl.1, hl.2.1, hl.2.2.1, hl.2.2.2.1, hl.2.2.2.2.1, hl.2.2.2.2.2.1, hl.2.2.2.2.2.2.1, hl.2.2.2.2.2.2.2.1, hl.2.2.2.2.2.2.2.2.1, hl.2.2.2.2.2.2.2.2.2.1, hl.2.2.2.2.2.2.2.2.2.2.1, by have := ht.size; omega⟩, (hb rb (by omega) (by omega) (by omega)).trans h.rrow, (hb pb (by omega) (by omega) (by omega)).trans h.prow, (hb fb (by omega) (by omega) (by omega)).trans h.frow, h.plist.turned (fnP_stays 20) ht hk, h.params.turned strP_stays ht hk, h.body.turned (stmtP_stays 20) ht hk, h.name⟩
  have h1 : Turned (fun k => k = br ∨ w.heap.size ≤ k) w wr := h.t
  have h2 := h1.size
  exact ⟨ht.os.trans h1.os, ht.tape.trans h1.tape, ht.output.trans h1.output, Nat.le_trans h1.size ht.size, fun k hk hn => (ht.block k (by omega) (fun e => by have := hT k (by omega) e; omega)).trans (h1.block k hk hn)⟩
/-- Blocks of one's own were changed. -/
theorem BentSt.own {T : Nat → Prop} (h : BentSt w0 w br rb pb fb lo a len cap bs u pa pc ps fpa fpc fba fbc f wr) (ht : Turned T wr w') (hT : ∀ k, k < wr.heap.size → T k → lo ≤ k) : BentSt w0 w br rb pb fb lo a len cap bs u pa pc ps fpa fpc fba fbc f w' := by
  obtain ⟨q, hq, hp⟩ := h.rd
  have hl := h.lt
  refine h.step ht (fun k h1 h2 => .inr (hT k h1 h2)) ⟨q, hq, hp.bytes, hp.below.trans (ht.below (B := w0.heap.size) hp.below.size (fun k hk => ?_)), hp.base, (ht.block _ hp.lt (fun e => by have := hT _ hp.lt e; omega)).trans hp.blk⟩
  by_cases hk2 : k < wr.heap.size
  · have := hT k hk2 hk; omega
  · have := hp.below.size; omega
theorem BentSt.later (h : BentSt w0 w br rb pb fb lo a len cap bs u pa pc ps fpa fpc fba fbc f wr) (hb : Below wr.heap.size wr w') : BentSt w0 w br rb pb fb lo a len cap bs u pa pc ps fpa fpc fba fbc f w' :=
  h.own (turned_of_below hb (S := fun k => wr.heap.size ≤ k) (fun k h1 _ => h1)) (fun k h1 h2 => by have h2 : wr.heap.size ≤ k := h2; omega)
theorem BentSt.alloc (o : Obj) (h : BentSt w0 w br rb pb fb lo a len cap bs u pa pc ps fpa fpc fba fbc f wr) : BentSt w0 w br rb pb fb lo a len cap bs u pa pc ps fpa fpc fba fbc f (wr.alloc o) := h.later ((Below.refl _ _).alloc (Nat.le_refl _) _)
theorem BentSt.call (h : BentSt w0 w br rb pb fb lo a len cap bs u pa pc ps fpa fpc fba fbc f wr) (ht : TurnR br wr w') (hr : ∃ q, q ≤ u' ∧ Rd w0 w' br a len cap bs q) : BentSt w0 w br rb pb fb lo a len cap bs u' pa pc ps fpa fpc fba fbc f w' :=
  h.step (T := fun k => k = br ∨ wr.heap.size ≤ k) ht (fun k h1 h2 => by have h2 : k = br ∨ wr.heap.size ≤ k := h2; omega) hr
theorem BentSt.up (h : BentSt w0 w br rb pb fb lo a len cap bs u pa pc ps fpa fpc fba fbc f wr) : BentSt w0 w br rb pb fb wr.heap.size a len cap bs u pa pc ps fpa fpc fba fbc f wr := by
  have hl := h.lt
  have hm : ∀ k, k < wr.heap.size → BS w rb pb fb lo k → BS w rb pb fb wr.heap.size k := fun k h1 h2 => ⟨h2.1, h1, h2.2.2⟩
  exact ⟨h.rd, h.t, ⟨hl.1, hl.2.1, hl.2.2.1, hl.2.2.2.1, hl.2.2.2.2.1, by omega, by omega, by omega, hl.2.2.2.2.2.2.2.2.1, hl.2.2.2.2.2.2.2.2.2.1, hl.2.2.2.2.2.2.2.2.2.2.1, Nat.le_refl _⟩, h.rrow, h.prow, h.frow, h.plist.mono (fnP_stays 20) hm, h.params.mono strP_stays hm, h.body.mono (stmtP_stays 20) hm, h.name⟩
theorem bs_not {k : Nat} (h : BS w rb pb fb lo k) : ¬ k = fb := h.2.2.2.2
/-- What a store into the function's block leaves. -/
theorem BentSt.stored (h : BentSt w0 w br rb pb fb lo a len cap bs u pa pc ps fpa fpc fba fbc f wr) (i : Nat) (v : Value) :
    (∃ q, q ≤ u ∧ Rd w0 (wr.setCell ⟨fb, i, none⟩ v) br a len cap bs q) ∧ TurnR br w (wr.setCell ⟨fb, i, none⟩ v) ∧ (wr.setCell ⟨fb, i, none⟩ v).heap[rb]? = some (.cells #[.slice none 0 0] 25 (0, 0)) ∧ (wr.setCell ⟨fb, i, none⟩ v).heap[pb]? = some (.cells #[.slice pa ps.length pc] 25 (0, 0)) ∧
    (br < w.heap.size ∧ w0.heap.size ≤ w.heap.size ∧ w.heap.size ≤ rb ∧ w.heap.size ≤ pb ∧ w.heap.size ≤ fb ∧ rb < wr.heap.size ∧ pb < wr.heap.size ∧ fb < wr.heap.size ∧ rb ≠ pb ∧ rb ≠ fb ∧ pb ≠ fb ∧ wr.heap.size ≤ (wr.setCell ⟨fb, i, none⟩ v).heap.size) ∧ ListK 3 (FnP 20) (BS w rb pb fb wr.heap.size) (wr.setCell ⟨fb, i, none⟩ v) pa ps ∧ ListK 1 strP (BS w rb pb fb wr.heap.size) (wr.setCell ⟨fb, i, none⟩ v) fpa f.params ∧ ListK 5 (StmtP 20) (BS w rb pb fb wr.heap.size) (wr.setCell ⟨fb, i, none⟩ v) fba f.body := by
  have ht := turned_store wr fb i v
  have hl := h.up.lt
  obtain ⟨q, hq, hp⟩ := h.rd
  have hk : ∀ k, k < wr.heap.size → BS w rb pb fb wr.heap.size k → ¬ k = fb := fun k _ h2 => bs_not h2
  refine ⟨⟨q, hq, hp.bytes, hp.below.trans (ht.below (B := w0.heap.size) hp.below.size (fun k hk => by have hk : k = fb := hk; omega)), hp.base, (ht.block _ hp.lt (fun e => by have e : br = fb := e; omega)).trans hp.blk⟩, ?_, (ht.block rb (by omega) (fun e => by have e : rb = fb := e; omega)).trans h.rrow, (ht.block pb (by omega) (fun e => by have e : pb = fb := e; omega)).trans h.prow, by rw [World.size_setCell]; exact hl, h.up.plist.turned (fnP_stays 20) ht hk, h.up.params.turned strP_stays ht hk, h.up.body.turned (stmtP_stays 20) ht hk⟩
  exact Turned.trans (S := fun k => k = br ∨ w.heap.size ≤ k) h.t (ht.mono (fun k hk => .inr (by have hk : k = fb := hk; omega)))
theorem BentSt.setName (h : BentSt w0 w br rb pb fb lo a len cap bs u pa pc ps fpa fpc fba fbc f wr) {nm : ByteArray} (hn : nm.size ≤ maxLen) : BentSt w0 w br rb pb fb wr.heap.size a len cap bs u pa pc ps fpa fpc fba fbc ⟨nm, f.params, f.body⟩ (wr.setCell ⟨fb, 0, none⟩ (.string nm)) := by
  obtain ⟨h1, h2, h3, h4, h5, h6, h7, h8⟩ := h.stored 0 (.string nm)
  exact ⟨h1, h2, h5, h3, h4, (heap_setCell_same wr fb 0 _ _ _ h.frow).trans rfl, h6, h7, h8, hn⟩
theorem BentSt.setParams (h : BentSt w0 w br rb pb fb lo a len cap bs u pa pc ps fpa fpc fba fbc f wr) {fpa' : Option Addr} {fpc' m : Nat} {qs : List ByteArray} (hq : ListK 1 strP (fun k => w.heap.size ≤ k ∧ k ≠ rb ∧ k ≠ pb ∧ k ≠ fb) wr fpa' qs) (hm : qs.length = m) : BentSt w0 w br rb pb fb wr.heap.size a len cap bs u pa pc ps fpa' fpc' fba fbc ⟨f.name, qs, f.body⟩ (wr.setCell ⟨fb, 1, none⟩ (.slice fpa' m fpc')) := by
  obtain ⟨h1, h2, h3, h4, h5, h6, h7, h8⟩ := h.stored 1 (.slice fpa' m fpc')
  refine ⟨h1, h2, h5, h3, h4, ?_, h6, ?_, h8, h.name⟩
  · rw [hm]; exact (heap_setCell_same wr fb 1 _ _ _ h.frow).trans rfl
  · exact ((hq.here strP_stays).mono strP_stays (fun k _ h => ⟨h.1.1, h.2, h.1.2⟩)).turned strP_stays (turned_store wr fb 1 (.slice fpa' m fpc')) (fun k _ h => bs_not h)
theorem BentSt.setBody (h : BentSt w0 w br rb pb fb lo a len cap bs u pa pc ps fpa fpc fba fbc f wr) {fba' : Option Addr} {fbc' m : Nat} {ys : List StmtD} (hq : ListK 5 (StmtP 20) (fun k => w.heap.size ≤ k ∧ k ≠ rb ∧ k ≠ pb ∧ k ≠ fb) wr fba' ys) (hm : ys.length = m) : BentSt w0 w br rb pb fb wr.heap.size a len cap bs u pa pc ps fpa fpc fba' fbc' ⟨f.name, f.params, ys⟩ (wr.setCell ⟨fb, 2, none⟩ (.slice fba' m fbc')) := by
  obtain ⟨h1, h2, h3, h4, h5, h6, h7, h8⟩ := h.stored 2 (.slice fba' m fbc')
  refine ⟨h1, h2, h5, h3, h4, ?_, h6, h7, ?_, h.name⟩
  · rw [hm]; exact (heap_setCell_same wr fb 2 _ _ _ h.frow).trans rfl
  · exact ((hq.here (stmtP_stays 20)).mono (stmtP_stays 20) (fun k _ h => ⟨h.1.1, h.2, h.1.2⟩)).turned (stmtP_stays 20) (turned_store wr fb 2 (.slice fba' m fbc')) (fun k _ h => bs_not h)
theorem BentSt.fP (h : BentSt w0 w br rb pb fb lo a len cap bs u pa pc ps fpa fpc fba fbc f wr) (h1 : f.params.length ≤ 100) (h2 : f.body.length ≤ 100) : FnP 20 (BS w rb pb fb lo) wr [.string f.name, .slice fpa f.params.length fpc, .slice fba f.body.length fbc] f :=
  ⟨fpa, fpc, fba, fbc, rfl, ⟨h.name, h1, h2⟩, h.params, h.body⟩
end
/-- How long the lists of a valid program's functions are. -/
theorem progB_lens {ps : List FnD} (h : progB ps = true) {f : FnD} (hf : f ∈ ps) : f.params.length ≤ 3 ∧ f.body.length ≤ 40 := by
  have hs : ∀ xs : List StmtD, xs.length ≤ sumN (cntS 4) xs := fun xs => by
    induction xs with
    | nil => exact Nat.zero_le _
    | cons x xs ih =>
      show xs.length + 1 ≤ cntS 4 x + sumN (cntS 4) xs
      have : 1 ≤ cntS 4 x := by show 1 ≤ 1 + _ + _; omega
      omega
  have hm : ∀ (qs : List FnD), f ∈ qs → sumN (cntS 4) f.body ≤ cntP qs := fun qs => by
    induction qs with
    | nil => intro h; cases h
    | cons q qs ih =>
      intro h
      show _ ≤ sumN (cntS 4) q.body + cntP qs
      rcases List.mem_cons.1 h with rfl | h
      · omega
      · have := ih h; omega
  simp only [progB, formP, Bool.and_eq_true, decide_eq_true_eq, List.all_eq_true] at h
  have h1 := h.1.2 f hf
  simp only [fnB, Bool.and_eq_true, decide_eq_true_eq] at h1
  have h2 := hs f.body
  have h3 := hm ps hf
  exact ⟨h1.1.1.2, by omega⟩

end Go.Proofs.YtccdmgncjlpebaaDoor
