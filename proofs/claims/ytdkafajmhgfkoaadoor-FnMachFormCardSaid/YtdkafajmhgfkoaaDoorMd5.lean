
/-
  A drawn machine that is bent: its memory.
-/
import Derived.Test.YtdkafajmhgfkoaaDoorMd3
namespace Go.Proofs.YtdkafajmhgfkoaaDoor
open Go.RowKit

theorem fcells_set : ∀ (fs : List FnH) (k q : Nat) (f f' : FnH) (v : Value), fs[k]? = some f → q < 3 → f.cells.set q v = f'.cells → (fs.flatMap FnH.cells).set (k * 3 + q) v = (fs.set k f').flatMap FnH.cells
  | [], _, _, _, _, _, h, _, _ => by simp at h
  | g :: fs, 0, q, f, f', v, h, hq, he => by
    simp at h
    subst h
    have e : (g.cells ++ fs.flatMap FnH.cells).set (0 * 3 + q) v = g.cells.set q v ++ fs.flatMap FnH.cells := by
      rw [Nat.zero_mul, Nat.zero_add, List.set_append_left _ _ (by show q < 3; omega)]
    show (g.cells ++ fs.flatMap FnH.cells).set (0 * 3 + q) v = f'.cells ++ fs.flatMap FnH.cells
    rw [e, he]
  | g :: fs, k + 1, q, f, f', v, h, hq, he => by
    have ih := fcells_set fs k q f f' v (by simpa using h) hq he
    show (g.cells ++ fs.flatMap FnH.cells).set ((k + 1) * 3 + q) v = g.cells ++ (fs.set k f').flatMap FnH.cells
    have hl : g.cells.length = 3 := rfl
    rw [List.set_append_right _ _ (by omega), hl, show (k + 1) * 3 + q - 3 = k * 3 + q by omega, ih]

/-- Functions of the call's own, bent. -/
structure FnsB (w : World) (lo : Nat) (a : Option Addr) (n c : Nat) (fs : List FnH) : Prop where
  own : w.ownsRow lo 32 3 (.slice a n c) n (fs.flatMap FnH.cells)
  rows : ∀ f ∈ fs, InsOwn w lo f.a f.n f.c
  small : ∀ f ∈ fs, f.n ≤ 20
theorem FnsOwn.bent {w : World} {lo lo' : Nat} {a : Option Addr} {n c : Nat} {fs : List FnH} (h : FnsOwn w lo a n c fs) (hl : lo' ≤ lo) : FnsB w lo' a n c fs :=
  ⟨own_lower h.own (fun k hk => Nat.le_trans hl (h.own.lt k hk).1), fun f hf => (by obtain ⟨xs, hx⟩ := h.rows f hf; exact ⟨xs, own_lower hx (fun k hk => Nat.le_trans hl (hx.lt k hk).1)⟩), fun f hf => (h.small f hf).2⟩
theorem FnsB.length {w : World} {lo : Nat} {a : Option Addr} {n c : Nat} {fs : List FnH} (h : FnsB w lo a n c fs) : fs.length = n := by
  have h1 := h.own.1
  have h2 := cells_len fs
  omega
theorem FnsB.far {w w' : World} {lo : Nat} {a : Option Addr} {n c : Nat} {fs : List FnH} (h : FnsB w lo a n c fs) {S : Nat → Prop} (ht : Turned S w w') (hS : ∀ k, S k → k < lo ∨ w.heap.size ≤ k) : FnsB w' lo a n c fs :=
  ⟨own_turned h.own ht (fun k hk hs => by have := h.own.lt k hk; have := hS k hs; omega), fun f hf => (h.rows f hf).far ht hS, h.small⟩
theorem FnsB.rd {w : World} {lo : Nat} {a : Option Addr} {n c : Nat} {fs : List FnH} (h : FnsB w lo a n c fs) (hn : n ≤ 3) : ∃ ds : List MfnD, ds.length = n ∧ szS szMfnD ds ≤ 1000 ∧ SliceRd 3 MfnR w a n ds ∧ n ≤ maxLen ∧ (a = none → c = 0) := by
  obtain ⟨ds, h1, h2, h3⟩ := fns_read fs h.rows h.small
  have hl := h.length
  refine ⟨ds, by omega, by unfold szS; omega, ⟨by omega, fs.map FnH.cells, ?_, by simpa using hl, ?_, h3⟩, ?_⟩
  · have := rowAt_of_own h.own
    rw [List.flatMap_def] at this
    exact this
  · intro cl hc
    obtain ⟨d, _, rfl⟩ := List.mem_map.1 hc
    rfl
  · rcases h.own.2 with ⟨hv, _⟩ | ⟨g, c', cur, hv, _, _, hnc, hcm, _⟩
    · simp only [Value.slice.injEq] at hv
      exact ⟨by rw [hv.2.1]; exact Nat.zero_le _, fun _ => hv.2.2⟩
    · simp only [Value.slice.injEq] at hv
      refine ⟨by omega, fun e => ?_⟩
      rw [hv.1] at e
      cases e
/-- Where a function lies. -/
theorem FnsB.place {w : World} {lo : Nat} {a : Option Addr} {n c : Nat} {fs : List FnH} (h : FnsB w lo a n c fs) {k : Nat} (hk : k < n) :
    ∃ g f, a = some ⟨g, 0, none⟩ ∧ fs[k]? = some f ∧ w.cell? ⟨g, k * 3, none⟩ = some (.int .i64 f.params) ∧ w.cell? ⟨g, k * 3 + 1, none⟩ = some (.int .i64 f.slots) ∧ w.cell? ⟨g, k * 3 + 2, none⟩ = some (.slice f.a f.n f.c) ∧ (∀ q, w.frozen? ⟨g, q, none⟩ = false) ∧ lo ≤ g ∧ g < w.heap.size := by
  have hl := h.length
  have ho := h.own
  rcases h.own.2 with ⟨_, h0⟩ | ⟨g, c', cur, hv, _⟩
  · omega
  · simp only [Value.slice.injEq] at hv
    obtain ⟨rfl, -, rfl⟩ := hv
    have hf : fs[k]? = some (fs[k]'(by omega)) := List.getElem?_eq_getElem _
    obtain ⟨p0, p1, p2⟩ := cells_at fs k _ hf
    exact ⟨g, _, rfl, hf, (ho.cellAt _ (by omega)).trans p0, (ho.cellAt _ (by omega)).trans p1, (ho.cellAt _ (by omega)).trans p2, fun q => ho.frozenAt q, (ho.lt g rfl).1, (ho.lt g rfl).2⟩
/-- Where an instruction lies. -/
theorem InsOwn.place {w : World} {lo : Nat} {a : Option Addr} {n c : Nat} (h : InsOwn w lo a n c) {j : Nat} (hj : j < n) :
    ∃ g, a = some ⟨g, 0, none⟩ ∧ (∀ q, w.frozen? ⟨g, q, none⟩ = false) ∧ lo ≤ g ∧ g < w.heap.size ∧ ∀ q, q < 5 → ∃ x, w.cell? ⟨g, j * 5 + q, none⟩ = some (.int .i64 x) := by
  obtain ⟨xs, ho⟩ := h
  rcases ho.2 with ⟨_, h0⟩ | ⟨g, c', cur, hv, _⟩
  · omega
  · simp only [Value.slice.injEq] at hv
    obtain ⟨rfl, -, rfl⟩ := hv
    refine ⟨g, rfl, fun q => ho.frozenAt q, (ho.lt g rfl).1, (ho.lt g rfl).2, fun q hq => ?_⟩
    have hl : xs.length = n * 5 := by have := ho.1; simpa using this
    have hx : xs[j * 5 + q]? = some (xs[j * 5 + q]'(by omega)) := List.getElem?_eq_getElem _
    exact ⟨_, (ho.cellAt _ (by omega)).trans (by rw [List.getElem?_map, hx]; rfl)⟩
/-- A number is written into a row of instructions: it stays one, and so does each other. -/
theorem InsOwn.poke {w : World} {lo : Nat} {a : Option Addr} {n c : Nat} (h : InsOwn w lo a n c) (g i : Nat) (x : Int) : InsOwn (w.setCell ⟨g, i, none⟩ (.int .i64 x)) lo a n c := by
  obtain ⟨xs, ho⟩ := h
  rcases ho.2 with ⟨hv, h0⟩ | ⟨g', c', cur, hv, _⟩
  · refine ⟨xs, ho.1, .inl ⟨hv, h0⟩⟩
  · simp only [Value.slice.injEq] at hv
    obtain ⟨rfl, -, rfl⟩ := hv
    by_cases he : g' = g
    · subst he
      exact ⟨xs.set i x, by rw [List.map_set]; exact (ho.stored i (.int .i64 x)).1⟩
    · exact ⟨xs, own_turned ho (turned_store w g i _) (fun k hk e => he (by cases hk; exact e))⟩
theorem InsOwn.less {w : World} {lo : Nat} {a : Option Addr} {n c : Nat} (h : InsOwn w lo a n c) {m : Nat} (hm : m ≤ n) (ha : 0 < n) : InsOwn w lo a m c := by
  obtain ⟨xs, ho⟩ := h
  rcases ho.2 with ⟨_, h0⟩ | ⟨g, c', cur, hv, h1, h2, h3, h4, h5, h6⟩
  · omega
  · simp only [Value.slice.injEq] at hv
    obtain ⟨rfl, -, rfl⟩ := hv
    have hl : xs.length = n * 5 := by have := ho.1; simpa using this
    refine ⟨xs.take (m * 5), by rw [List.length_map, List.length_take]; omega, .inr ⟨g, c, cur, rfl, h1, h2, by omega, h4, h5, ?_⟩⟩
    rw [List.map_take, ← h6, List.take_take]
    congr 1
    omega

/-- While a machine is bent: the reader, the result's box, the machine's, its functions. -/
structure BentSt (w0 w : World) (br : Nat) (a : Option Addr) (len cap : Nat) (bs : List Int) (bm : Nat) (am : Option Addr) (nm cm : Nat) (fs : List FnH) (p : Nat) (wr : World) : Prop where
  rd : Rd w0 wr br a len cap bs p
  turned : TurnBr br w wr
  lt : br < w.heap.size
  res : wr.heap[w.heap.size]? = some (.cells #[.slice none 0 0] 25 (0, 0))
  mbox : wr.heap[bm]? = some (.cells #[.slice am nm cm] 25 (0, 0))
  far : w.heap.size < bm
  fns : FnsB wr w.heap.size am nm cm fs
section
variable {w0 w wr w' : World} {br : Nat} {a : Option Addr} {len cap : Nat} {bs : List Int} {bm : Nat} {am : Option Addr} {nm cm : Nat} {fs : List FnH} {p : Nat}
theorem BentSt.step {q : Nat} (h : BentSt w0 w br a len cap bs bm am nm cm fs p wr) (ht : TurnBr br wr w') (hr : Rd w0 w' br a len cap bs q) : BentSt w0 w br a len cap bs bm am nm cm fs q w' := by
  have hl := h.lt
  have hf := h.far
  exact ⟨hr, h.turned.trans ht, hl, ht.keeps h.res (by omega), ht.keeps h.mbox (by omega), hf, h.fns.far ht (fun k hk => by omega)⟩
theorem BentSt.below (h : BentSt w0 w br a len cap bs bm am nm cm fs p wr) (hb : Below wr.heap.size wr w') : BentSt w0 w br a len cap bs bm am nm cm fs p w' := h.step (TurnBr.of_below hb) (h.rd.below' hb)
theorem BentSt.grown {q : Nat} (h : BentSt w0 w br a len cap bs bm am nm cm fs p wr) (hg : wr.grownBy w' (some br)) (hr : Rd w0 w' br a len cap bs q) : BentSt w0 w br a len cap bs bm am nm cm fs q w' := h.step (TurnBr.of_grown hg) hr
/-- A number is written into an instruction. -/
theorem BentSt.poke {f : FnH} {g : Nat} (h : BentSt w0 w br a len cap bs bm am nm cm fs p wr) (hf : f ∈ fs) (hg : f.a = some ⟨g, 0, none⟩) (i : Nat) (x : Int) : BentSt w0 w br a len cap bs bm am nm cm fs p (wr.setCell ⟨g, i, none⟩ (.int .i64 x)) := by
  have hl := h.lt
  have hb : (Value.slice f.a f.n f.c).ownBlock = some g := by rw [hg]; rfl
  have hlo : w.heap.size ≤ g := by obtain ⟨xs, hx⟩ := h.fns.rows f hf; exact (hx.lt g hb).1
  have hn : ∀ {k : Nat} {cs : Array Value} {t : TypeId}, wr.heap[k]? = some (.cells cs t (0, 0)) → t ≠ 41 → (wr.setCell ⟨g, i, none⟩ (.int .i64 x)).heap[k]? = some (.cells cs t (0, 0)) := fun {k} {cs} {t} hk ht =>
    (heap_setCell_other wr ⟨g, i, none⟩ k _ (fun e => ins_not (h.fns.rows f hf) hk ht g hb e.symm)).trans hk
  exact ⟨h.rd.cell (by omega) _ _, h.turned.cell hlo _ _, hl, hn h.res (by decide), hn h.mbox (by decide), h.far,
    ⟨own_turned h.fns.own (turned_store wr g i _) (fun k hk e => ins_ne_fns (h.fns.rows f hf) h.fns.own g hb (by rw [← e]; exact hk)), fun f' hf' => (h.fns.rows f' hf').poke g i x, h.fns.small⟩⟩
/-- A function is written. -/
theorem BentSt.put {f f' : FnH} {g k q : Nat} {v : Value} (h : BentSt w0 w br a len cap bs bm (some ⟨g, 0, none⟩) nm cm fs p wr) (hf : fs[k]? = some f) (hq : q < 3) (hs : f.cells.set q v = f'.cells) (hi : InsOwn wr w.heap.size f'.a f'.n f'.c) (hn : f'.n ≤ 20) :
    BentSt w0 w br a len cap bs bm (some ⟨g, 0, none⟩) nm cm (fs.set k f') p (wr.setCell ⟨g, k * 3 + q, none⟩ v) := by
  have hl := h.lt
  have hlo := (h.fns.own.lt g rfl).1
  have hn' : ∀ {k' : Nat} {cs : Array Value} {t : TypeId}, wr.heap[k']? = some (.cells cs t (0, 0)) → t ≠ 32 → (wr.setCell ⟨g, k * 3 + q, none⟩ v).heap[k']? = some (.cells cs t (0, 0)) := fun {k'} {cs} {t} hk ht =>
    (heap_setCell_other wr ⟨g, k * 3 + q, none⟩ k' _ (fun e => fns_not h.fns.own hk ht g rfl e.symm)).trans hk
  have hrow : ∀ {b : Option Addr} {m d : Nat}, InsOwn wr w.heap.size b m d → InsOwn (wr.setCell ⟨g, k * 3 + q, none⟩ v) w.heap.size b m d := fun hx => hx.turned (turned_store wr g _ v) (fun k' hk' e => ins_ne_fns hx h.fns.own k' hk' (by rw [e]; rfl))
  refine ⟨h.rd.cell (by omega) _ _, h.turned.cell hlo _ _, hl, hn' h.res (by decide), hn' h.mbox (by decide), h.far, ⟨?_, fun x hx => ?_, fun x hx => ?_⟩⟩
  · rw [← fcells_set fs k q f f' v hf hq hs]
    exact (h.fns.own.stored _ v).1
  · rcases List.mem_or_eq_of_mem_set hx with hx | rfl
    · exact hrow (h.fns.rows x hx)
    · exact hrow hi
  · rcases List.mem_or_eq_of_mem_set hx with hx | rfl
    · exact h.fns.small x hx
    · exact hn
end

end Go.Proofs.YtdkafajmhgfkoaaDoor
