/-
  The reference draws programs: what a call's own blocks are like while it draws.
-/
import Derived.Test.YtccdmgncjlpebaaDoorGt
import Derived.Deep.RegionHeld3

namespace Go.Proofs.YtccdmgncjlpebaaDoor
open Go.RowKit
set_option linter.unusedVariables false

/-- A block reads as it did. -/
structure SameB (b : Nat) (w W : World) : Prop where
  blk : W.heap[b]? = w.heap[b]?
  lt : b < w.heap.size ∧ w.heap.size ≤ W.heap.size
theorem SameB.refl {b : Nat} {w : World} (h : b < w.heap.size) : SameB b w w := ⟨rfl, h, Nat.le_refl _⟩
theorem SameB.later {b : Nat} {w W W' : World} (h : SameB b w W) (hb : Below W.heap.size W W') : SameB b w W' := ⟨(hb.block b (by have := h.lt; omega)).trans h.blk, h.lt.1, Nat.le_trans h.lt.2 hb.size⟩
theorem SameB.alloc {b : Nat} {w W : World} (o : Obj) (h : SameB b w W) : SameB b w (W.alloc o) := h.later ((Below.refl _ _).alloc (Nat.le_refl _) _)
theorem SameB.drewN {b : Nat} {w W : World} (n : Nat) (h : SameB b w W) : SameB b w (W.drewN n) := h.later (below_drewN (Below.refl _ _) n)
theorem SameB.cell {b : Nat} {w W : World} (h : SameB b w W) : ∀ i, W.cell? ⟨b, i, none⟩ = w.cell? ⟨b, i, none⟩ := fun i => World.cell?_of_block h.blk
theorem setCells3 (w : World) (g : Nat) (v0 v1 v2 : Value) : w.setCells g 0 [v0, v1, v2] = ((w.setCell ⟨g, 0, none⟩ v0).setCell ⟨g, 1, none⟩ v1).setCell ⟨g, 2, none⟩ v2 := rfl
theorem exprK_two {d : Nat} {op : Int} (hop : -9223372036854775808 ≤ op ∧ op ≤ 9223372036854775807) {S : Nat → Prop} {w : World} {b c : Nat} {c1 c2 : List Value} {x1 x2 : ExprD} {t : TypeId} (hb : w.heap[b]? = some (.cells (c1 ++ c2).toArray t (0, 0))) (hS : S b) (h1 : exprK d S w c1 x1) (h2 : exprK d S w c2 x2) :
    exprK (d + 1) S w [.int .i64 op, .int .i64 0, .string ⟨#[]⟩, .slice (some ⟨b, 0, none⟩) 2 c] (.mk op 0 ⟨#[]⟩ [x1, x2]) := by
  have hl : ListK 4 (exprK d) S w (some ⟨b, 0, none⟩) [x1, x2] := ListK.laid (cells := [c1, c2]) (by simpa using hb) hS rfl (by intro d hd; simp at hd; rcases hd with rfl | rfl; exact (exprK_stays _).len h1; exact (exprK_stays _).len h2) (fun i cl y k1 k2 => by
    match i with
    | 0 => cases k1; cases k2; exact h1
    | 1 => cases k1; cases k2; exact h2
    | i + 2 => cases k1)
  refine ⟨⟨_, c, rfl, ⟨by show (2 : Nat) ≤ maxLen; decide, hop⟩, ⟨sliceRd_mono' hl.rd (fun _ _ _ h => h.1), hl.blk⟩⟩, long_two h1.2 h2.2⟩
theorem listK_mem' {α : Type} {s : Nat} {R : InRel α} {S : Nat → Prop} {w : World} {a : Option Addr} {xs : List α} (h : ListK s R S w a xs) {x : α} (hx : x ∈ xs) : ∃ c, R S w c x := by
  obtain ⟨h1, cells, h2, h3, h4, h5⟩ := h.rd
  obtain ⟨i, hi, rfl⟩ := List.getElem_of_mem hx
  exact ⟨cells[i]'(by omega), h5 i _ _ (List.getElem?_eq_getElem _) (List.getElem?_eq_getElem _)⟩
theorem exprK_call {d : Nat} {S : Nat → Prop} {w : World} {a : Option Addr} {c : Nat} {nm : ByteArray} {ks : List ExprD} (h : ListK 4 (exprK d) S w a ks) (hn : nm.size ≤ maxLen) (hl : ks.length ≤ 100) (op : Int) (hop : -9223372036854775808 ≤ op ∧ op ≤ 9223372036854775807) :
    exprK (d + 1) S w [.int .i64 op, .int .i64 0, .string nm, .slice a ks.length c] (.mk op 0 nm ks) := by
  refine ⟨⟨a, c, rfl, ⟨by show ks.length ≤ maxLen; unfold maxLen; omega, hop⟩, ⟨sliceRd_mono' h.rd (fun _ _ _ h => h.1), h.blk⟩⟩, ?_⟩
  show (decide (maxLen < nm.size) || ks.any (anyE longP d)) = false
  rw [decide_eq_false (by omega), Bool.false_or, List.any_eq_false]
  intro z hz
  obtain ⟨c, hc⟩ := listK_mem' h hz
  rw [hc.2]; simp
section
variable {w0 w : World} {br bg : Nat} {a : Option Addr} {len cap : Nat} {bs : List Int} {fa : Option Addr} {fc : Nat} {fns : List FnD} {va : Option Addr} {vc : Nat} {vars : List ByteArray} {next left : Int}
/-- The result's block is still as it was made; the variables and the functions lie in older blocks. -/
structure BSt (w0 w : World) (br bg : Nat) (a : Option Addr) (len cap : Nat) (bs : List Int) (fa : Option Addr) (fc : Nat) (fns : List FnD) (va : Option Addr) (vc : Nat) (vars : List ByteArray) (next left : Int) (z : List Value) (ty : TypeId) (u : Nat) (wr : World) : Prop where
  g : GSt w0 br bg a len cap bs fa fc fns u va vc vars next left wr
  t : Turn2 br bg w wr
  lt : br < w.heap.size ∧ bg < w.heap.size ∧ w0.heap.size ≤ w.heap.size
  rrow : wr.heap[w.heap.size]? = some (.cells z.toArray ty (0, 0))
  vlow : ListK 1 strP (fun k => k ≠ br ∧ k ≠ bg ∧ k < w.heap.size) wr va vars
  flow : ListK 3 (FnP 20) (fun k => k ≠ br ∧ k ≠ bg ∧ k < w.heap.size) wr fa fns
variable {z : List Value} {ty : TypeId} {u u' : Nat} {wr w' : World}
theorem BSt.start (z : List Value) (ty : TypeId) (h : GSt w0 br bg a len cap bs fa fc fns u va vc vars next left w) : BSt w0 w br bg a len cap bs fa fc fns va vc vars next left z ty u (w.alloc (.cells z.toArray ty)) :=
  ⟨h.alloc _, Turn2.alloc _ _, ⟨h.lts.1, h.lts.2, by obtain ⟨p, _, hp⟩ := h.rd; exact hp.below.size⟩, heap_alloc_new w _,
   ((h.vlist.here strP_stays).mono strP_stays (fun k _ h => ⟨h.1.1, h.1.2, h.2⟩)).below strP_stays ((Below.refl _ _).alloc (Nat.le_refl _) _), ((h.flist.here (fnP_stays 20)).mono (fnP_stays 20) (fun k _ h => ⟨h.1.1, h.1.2, h.2⟩)).below (fnP_stays 20) ((Below.refl _ _).alloc (Nat.le_refl _) _)⟩
theorem BSt.size (h : BSt w0 w br bg a len cap bs fa fc fns va vc vars next left z ty u wr) : w.heap.size < wr.heap.size := (Array.getElem?_eq_some_iff.1 h.rrow).1
theorem BSt.step {q : Nat} (h : BSt w0 w br bg a len cap bs fa fc fns va vc vars next left z ty u wr) (ht : TurnR br wr w') (hr : Rd w0 w' br a len cap bs q) (hq : q ≤ u') (hu : u ≤ u') : BSt w0 w br bg a len cap bs fa fc fns va vc vars next left z ty u' w' :=
  ⟨h.g.step ht hr hq hu, h.t.trans (Turn2.of ht), h.lt, (ht.block h.size (by have := h.lt; omega)).trans h.rrow, (Turn2.of (bg := bg) ht).list strP_stays h.vlow (fun k h => ⟨h.1, h.2.1⟩), (Turn2.of (bg := bg) ht).list (fnP_stays 20) h.flow (fun k h => ⟨h.1, h.2.1⟩)⟩
theorem BSt.later (h : BSt w0 w br bg a len cap bs fa fc fns va vc vars next left z ty u wr) (hb : Below wr.heap.size wr w') : BSt w0 w br bg a len cap bs fa fc fns va vc vars next left z ty u w' :=
  ⟨h.g.later hb, h.t.trans (Turn2.below hb), h.lt, (hb.block _ h.size).trans h.rrow, h.vlow.below strP_stays hb, h.flow.below (fnP_stays 20) hb⟩
theorem BSt.alloc (o : Obj) (h : BSt w0 w br bg a len cap bs fa fc fns va vc vars next left z ty u wr) : BSt w0 w br bg a len cap bs fa fc fns va vc vars next left z ty u (wr.alloc o) := h.later ((Below.refl _ _).alloc (Nat.le_refl _) _)
theorem BSt.drewN (n : Nat) (h : BSt w0 w br bg a len cap bs fa fc fns va vc vars next left z ty u wr) : BSt w0 w br bg a len cap bs fa fc fns va vc vars next left z ty u (wr.drewN n) := h.later (below_drewN (Below.refl _ _) n)
/-- Blocks of the call's own, other than the result's, were changed. -/
theorem BSt.other {T : Nat → Prop} (h : BSt w0 w br bg a len cap bs fa fc fns va vc vars next left z ty u wr) (ht : Turned T wr w') (hT : ∀ k, T k → w.heap.size < k) : BSt w0 w br bg a len cap bs fa fc fns va vc vars next left z ty u w' := by
  have hv := h.vlow.turned strP_stays ht (fun k _ h1 h2 => by have := hT k h2; omega)
  have hf := h.flow.turned (fnP_stays 20) ht (fun k _ h1 h2 => by have := hT k h2; omega)
  have hl := h.lt
  refine ⟨h.g.other ht (fun k _ hk => by have := hT k hk; omega) (hv.mono strP_stays (fun k _ h => ⟨h.1, h.2.1⟩)) (hf.mono (fnP_stays 20) (fun k _ h => ⟨h.1, h.2.1⟩)), ?_, h.lt, (ht.block _ h.size (fun e => by have := hT _ e; omega)).trans h.rrow, hv, hf⟩
  exact Turned.trans (S := fun k => k = br ∨ k = bg ∨ w.heap.size ≤ k) h.t (ht.mono (fun k hk => by have := hT k hk; omega))
/-- The result is put. -/
theorem BSt.put (h : BSt w0 w br bg a len cap bs fa fc fns va vc vars next left z ty u wr) {cs : List Value} (hl : cs.length = z.length) :
    (wr.setCells w.heap.size 0 cs).heap[w.heap.size]? = some (.cells cs.toArray ty (0, 0)) ∧ Turned (fun k => k = w.heap.size) wr (wr.setCells w.heap.size 0 cs) ∧
      GSt w0 br bg a len cap bs fa fc fns u va vc vars next left (wr.setCells w.heap.size 0 cs) ∧ Turn2 br bg w (wr.setCells w.heap.size 0 cs) := by
  have ht := turned_setCells (g := w.heap.size) cs wr 0
  have hlt := h.lt
  refine ⟨?_, ht, h.g.other ht (fun k _ hk => by omega) ?_ ?_, Turned.trans (S := fun k => k = br ∨ k = bg ∨ w.heap.size ≤ k) h.t (ht.mono (fun k hk => by omega))⟩
  · have := heap_setCells_mid (A := []) (B := z) (C := []) (vs := cs) (o := 0) rfl hl.symm (by simpa using h.rrow)
    simpa using this
  · exact (h.vlow.turned strP_stays ht (fun k _ h1 h2 => by omega)).mono strP_stays (fun k _ h => ⟨h.1, h.2.1⟩)
  · exact (h.flow.turned (fnP_stays 20) ht (fun k _ h1 h2 => by omega)).mono (fnP_stays 20) (fun k _ h => ⟨h.1, h.2.1⟩)


/-- An expression in a block of its own, its memory older than a limit. -/
structure EBlk (w : World) (eb hi : Nat) (cs : List Value) (y : ExprD) (wr : World) : Prop where
  lt : w.heap.size < eb ∧ eb < hi ∧ hi ≤ wr.heap.size
  row : wr.heap[eb]? = some (.cells cs.toArray 54 (0, 0))
  ex : exprK 4 (fun b => w.heap.size < b ∧ b ≠ eb ∧ b < hi) wr cs y
theorem EBlk.turn {w wr w' : World} {eb hi : Nat} {cs : List Value} {y : ExprD} {T : Nat → Prop} (h : EBlk w eb hi cs y wr) (ht : Turned T wr w') (hT : ∀ k, k < wr.heap.size → T k → k ≤ w.heap.size ∨ hi ≤ k) : EBlk w eb hi cs y w' :=
  ⟨⟨h.lt.1, h.lt.2.1, Nat.le_trans h.lt.2.2 ht.size⟩, (ht.block _ (by have := h.lt; omega) (fun e => by have := hT _ (by have := h.lt; omega) e; have := h.lt; omega)).trans h.row, (exprK_stays 4).turned ht (fun k h1 h2 h3 => by have := hT k h1 h3; omega) h.ex⟩
theorem EBlk.later {w wr w' : World} {eb hi : Nat} {cs : List Value} {y : ExprD} (h : EBlk w eb hi cs y wr) (hb : Below wr.heap.size wr w') : EBlk w eb hi cs y w' :=
  h.turn (T := fun k => wr.heap.size ≤ k) (turned_of_below hb (fun k h1 _ => h1)) (fun k h1 h2 => by omega)
theorem EBlk.step {w wr w' : World} {br eb hi : Nat} {cs : List Value} {y : ExprD} (h : EBlk w eb hi cs y wr) (ht : TurnR br wr w') (hbr : br < w.heap.size) : EBlk w eb hi cs y w' :=
  h.turn (T := fun k => k = br ∨ wr.heap.size ≤ k) ht (fun k h1 h2 => by omega)

end

end Go.Proofs.YtccdmgncjlpebaaDoor
