/-
  The state of the reference's drawing of programs (l3Gen): what it holds, and what a step changes.
-/
import Derived.Test.YtccdmgncjlpebaaDoorVs
import Derived.Test.YtccdmgncjlpebaaDoorDr4
import Derived.Test.YtccdmgncjlpebaaDoorFb
import Derived.Deep.LoopGhost
import Derived.Deep.DeepCutAuto

namespace Go.Proofs.YtccdmgncjlpebaaDoor
open Go.RowKit
set_option linter.unusedVariables false

/-- Only these two blocks were changed, and new ones made. -/
def Turn2 (br bg : Nat) (w w' : World) : Prop := Turned (fun k => k = br ∨ k = bg ∨ w.heap.size ≤ k) w w'
section
variable {br bg : Nat} {a b c w w' : World}
theorem Turn2.refl (br bg : Nat) (w : World) : Turn2 br bg w w := Turned.refl _ w
theorem Turn2.trans (h : Turn2 br bg a b) (k : Turn2 br bg b c) : Turn2 br bg a c :=
  Turned.trans h (Turned.mono (T := fun i => i = br ∨ i = bg ∨ a.heap.size ≤ i) k (fun i hi => by have := h.size; omega))
theorem Turn2.of (h : TurnR br w w') : Turn2 br bg w w' := Turned.mono (S := fun k => k = br ∨ w.heap.size ≤ k) h (fun i hi => by omega)
theorem Turn2.below (hb : Below w.heap.size w w') : Turn2 br bg w w' := Turn2.of (TurnR.below hb)
theorem Turn2.alloc (w : World) (o : Obj) : Turn2 br bg w (w.alloc o) := Turn2.below ((Below.refl _ _).alloc (Nat.le_refl _) _)
theorem Turn2.drewN (w : World) (n : Nat) : Turn2 br bg w (w.drewN n) := Turn2.below (below_drewN (Below.refl _ _) n)
theorem Turn2.size (h : Turn2 br bg w w') : w.heap.size ≤ w'.heap.size := Turned.size (S := fun k => k = br ∨ k = bg ∨ w.heap.size ≤ k) h
theorem Turn2.grown {o : Option Nat} (h : w.grownBy w' o) (hw : ∀ i, o = some i → a.heap.size ≤ i) (h0 : Turn2 br bg a w) : Turn2 br bg a w' :=
  Turned.trans (S := fun k => k = br ∨ k = bg ∨ a.heap.size ≤ k) h0 (Turned.mono (turned_of_grown h (S := fun i => o = some i) (fun i hi => hi)) (fun i hi => .inr (.inr (hw i hi))))
theorem Turn2.list {α : Type} {s : Nat} {R : InRel α} (hR : Stays s R) (h : Turn2 br bg w w') {S : Nat → Prop} {x : Option Addr} {xs : List α} (hx : ListK s R S w x xs) (hS : ∀ k, S k → k ≠ br ∧ k ≠ bg) : ListK s R S w' x xs :=
  hx.turned hR h (fun k h1 h2 h3 => by have := hS k h2; omega)
end
theorem listK_strsA {br : Nat} {w : World} {a : Option Addr} {xs : List ByteArray} (h : ListK 1 strP (fun k => k ≠ br) w a xs) : StrsA br w a xs.length xs := by
  refine ⟨⟨rfl, ?_⟩, fun hn => ?_⟩
  · obtain ⟨h1, cells, h2, h3, h4, h5⟩ := h.rd
    have he : cells.flatten = xs.map Value.string := by
      clear h2
      have hl : cells.length = xs.length := h3
      clear h h1 h3 h4
      induction cells generalizing xs with
      | nil => cases xs with
        | nil => rfl
        | cons x xs => simp at hl
      | cons c cs ih =>
        cases xs with
        | nil => simp at hl
        | cons x xs =>
          have h0 := (h5 0 c x rfl rfl).1
          rw [List.flatten_cons, h0, List.map_cons, ih (xs := xs) (fun i c' x' hc hx => h5 (i + 1) c' x' hc hx) (by simpa using hl)]
          rfl
    rw [← he]; exact h2
  · obtain ⟨b, off, h1, h2, h3⟩ := h.blk (fun e => hn (by rw [e]; rfl))
    exact ⟨b, off, h1, h2, h3⟩
theorem listK_sizes {S : Nat → Prop} {w : World} {a : Option Addr} {xs : List ByteArray} (h : ListK 1 strP S w a xs) : ∀ s ∈ xs, s.size ≤ maxLen := fun s hs => by
  obtain ⟨h1, cells, h2, h3, h4, h5⟩ := h.rd
  obtain ⟨i, hi, rfl⟩ := List.getElem_of_mem hs
  exact (h5 i _ _ (List.getElem?_eq_getElem (by omega)) (List.getElem?_eq_getElem hi)).2
theorem strsK_laid {S : Nat → Prop} {w : World} {t : TypeId} {b : Nat} {xs : List ByteArray} (hb : w.heap[b]? = some (.cells (xs.map Value.string).toArray t (0, 0))) (hS : S b) (hx : ∀ s ∈ xs, s.size ≤ maxLen) : ListK 1 strP S w (some ⟨b, 0, none⟩) xs := by
  have hf : ∀ ys : List ByteArray, (ys.map fun s => [Value.string s]).flatten = ys.map Value.string := fun ys => by
    induction ys with
    | nil => rfl
    | cons y ys ih => rw [List.map_cons, List.flatten_cons, ih]; rfl
  refine ListK.laid (cells := xs.map fun s => [.string s]) (by rw [hf]; exact hb) hS (by simp) (fun c hc => ?_) (fun i cl x hc hx' => ?_)
  · obtain ⟨s, _, rfl⟩ := List.mem_map.1 hc; rfl
  · rw [List.getElem?_map] at hc
    rw [hx'] at hc
    cases hc
    exact ⟨rfl, hx _ (List.mem_of_getElem? hx')⟩

/-- The drawing's state: so much was drawn at most, these functions and variables there are. -/
structure GSt (w0 : World) (br bg : Nat) (a : Option Addr) (len cap : Nat) (bs : List Int) (fa : Option Addr) (fc : Nat) (fns : List FnD) (u : Nat) (va : Option Addr) (vc : Nat) (vars : List ByteArray) (next left : Int) (w : World) : Prop where
  rd : ∃ p, p ≤ u ∧ Rd w0 w br a len cap bs p
  row : w.heap[bg]? = some (.cells #[.pointer (some ⟨br, 0, none⟩), .slice fa fns.length fc, .slice va vars.length vc, .int .i64 next, .int .i64 left] 74 (0, 0))
  base : w0.heap.size ≤ bg ∧ br < bg
  vlist : ListK 1 strP (fun k => k ≠ br ∧ k ≠ bg) w va vars
  flist : ListK 3 (FnP 20) (fun k => k ≠ br ∧ k ≠ bg) w fa fns
  bnd : vars.length ≤ u + 3 ∧ fns.length ≤ 3 ∧ (∀ f ∈ fns, f.params.length ≤ 3) ∧ -1 ≤ next ∧ next ≤ u + 3 ∧ -(3 * u) - 3 ≤ left ∧ left ≤ 30
section
variable {w0 w w' : World} {br bg : Nat} {a : Option Addr} {len cap : Nat} {bs : List Int} {fa : Option Addr} {fc : Nat} {fns : List FnD} {u u' : Nat} {va : Option Addr} {vc : Nat} {vars : List ByteArray} {next left : Int}
theorem GSt.lts (h : GSt w0 br bg a len cap bs fa fc fns u va vc vars next left w) : br < w.heap.size ∧ bg < w.heap.size := by
  obtain ⟨p, _, hp⟩ := h.rd
  exact ⟨hp.lt, (Array.getElem?_eq_some_iff.1 h.row).1⟩
theorem GSt.more (h : GSt w0 br bg a len cap bs fa fc fns u va vc vars next left w) (hu : u ≤ u') : GSt w0 br bg a len cap bs fa fc fns u' va vc vars next left w := by
  obtain ⟨p, h1, hp⟩ := h.rd
  obtain ⟨b1, b2, b3, b4, b5, b6, b7⟩ := h.bnd
  exact ⟨⟨p, by omega, hp⟩, h.row, h.base, h.vlist, h.flist, by omega, b2, b3, b4, by omega, by omega, b7⟩
/-- Numbers were drawn. -/
theorem GSt.step {q : Nat} (h : GSt w0 br bg a len cap bs fa fc fns u va vc vars next left w) (ht : TurnR br w w') (hr : Rd w0 w' br a len cap bs q) (hq : q ≤ u') (hu : u ≤ u') : GSt w0 br bg a len cap bs fa fc fns u' va vc vars next left w' := by
  have h2 := h.more hu
  exact ⟨⟨q, hq, hr⟩, (ht.block h.lts.2 (by have := h.base; omega)).trans h.row, h.base, (Turn2.of (bg := bg) ht).list strP_stays h.vlist (fun k h => h), (Turn2.of (bg := bg) ht).list (fnP_stays 20) h.flist (fun k h => h), h2.bnd⟩
theorem GSt.later (h : GSt w0 br bg a len cap bs fa fc fns u va vc vars next left w) (hb : Below w.heap.size w w') : GSt w0 br bg a len cap bs fa fc fns u va vc vars next left w' := by
  obtain ⟨p, h1, hp⟩ := h.rd
  exact h.step (TurnR.below hb) (hp.later' hb) h1 (Nat.le_refl _)
theorem GSt.alloc (o : Obj) (h : GSt w0 br bg a len cap bs fa fc fns u va vc vars next left w) : GSt w0 br bg a len cap bs fa fc fns u va vc vars next left (w.alloc o) := h.later ((Below.refl _ _).alloc (Nat.le_refl _) _)
theorem GSt.drewN (n : Nat) (h : GSt w0 br bg a len cap bs fa fc fns u va vc vars next left w) : GSt w0 br bg a len cap bs fa fc fns u va vc vars next left (w.drewN n) := h.later (below_drewN (Below.refl _ _) n)
theorem GSt.drew (h : GSt w0 br bg a len cap bs fa fc fns u va vc vars next left w) : GSt w0 br bg a len cap bs fa fc fns u va vc vars next left w.drew := h.drewN 1
/-- Blocks other than the two were changed. -/
theorem GSt.other {T : Nat → Prop} (h : GSt w0 br bg a len cap bs fa fc fns u va vc vars next left w) (ht : Turned T w w') (hT : ∀ k, k < w.heap.size → T k → ¬ k = br ∧ ¬ k = bg ∧ w0.heap.size ≤ k)
    (hv : ListK 1 strP (fun k => k ≠ br ∧ k ≠ bg) w' va vars) (hf : ListK 3 (FnP 20) (fun k => k ≠ br ∧ k ≠ bg) w' fa fns) : GSt w0 br bg a len cap bs fa fc fns u va vc vars next left w' := by
  obtain ⟨p, h1, hp⟩ := h.rd
  refine ⟨⟨p, h1, hp.bytes, hp.below.trans (ht.below (B := w0.heap.size) hp.below.size (fun k hk => ?_)), hp.base, (ht.block _ hp.lt (fun e => (hT _ hp.lt e).1 rfl)).trans hp.blk⟩, (ht.block _ h.lts.2 (fun e => (hT _ h.lts.2 e).2.1 rfl)).trans h.row, h.base, hv, hf, h.bnd⟩
  by_cases hk2 : k < w.heap.size
  · exact (hT k hk2 hk).2.2
  · have := hp.below.size; omega
theorem GSt.c0 (h : GSt w0 br bg a len cap bs fa fc fns u va vc vars next left w) : w.cell? ⟨bg, 0, none⟩ = some (.pointer (some ⟨br, 0, none⟩)) := cell_of_row _ _ 0 _ _ _ h.row
theorem GSt.c1 (h : GSt w0 br bg a len cap bs fa fc fns u va vc vars next left w) : w.cell? ⟨bg, 1, none⟩ = some (.slice fa fns.length fc) := cell_of_row _ _ 1 _ _ _ h.row
theorem GSt.c2 (h : GSt w0 br bg a len cap bs fa fc fns u va vc vars next left w) : w.cell? ⟨bg, 2, none⟩ = some (.slice va vars.length vc) := cell_of_row _ _ 2 _ _ _ h.row
theorem GSt.c3 (h : GSt w0 br bg a len cap bs fa fc fns u va vc vars next left w) : w.cell? ⟨bg, 3, none⟩ = some (.int .i64 next) := cell_of_row _ _ 3 _ _ _ h.row
theorem GSt.c4 (h : GSt w0 br bg a len cap bs fa fc fns u va vc vars next left w) : w.cell? ⟨bg, 4, none⟩ = some (.int .i64 left) := cell_of_row _ _ 4 _ _ _ h.row
theorem GSt.f (h : GSt w0 br bg a len cap bs fa fc fns u va vc vars next left w) (i : Nat) : w.frozen? ⟨bg, i, none⟩ = false := frozen_of_row _ _ i _ _ h.row
theorem GSt.strs (h : GSt w0 br bg a len cap bs fa fc fns u va vc vars next left w) : StrsA br w va vars.length vars := listK_strsA (h.vlist.mono strP_stays (fun _ _ h => h.1))
/-- One of its cells is set. -/
theorem GSt.setNext (h : GSt w0 br bg a len cap bs fa fc fns u va vc vars next left w) {n' : Int} (hn : -1 ≤ n' ∧ n' ≤ u + 3) : GSt w0 br bg a len cap bs fa fc fns u va vc vars n' left (w.setCell ⟨bg, 3, none⟩ (.int .i64 n')) ∧ Turn2 br bg w (w.setCell ⟨bg, 3, none⟩ (.int .i64 n')) := by
  have ht := turned_store w bg 3 (.int .i64 n')
  have ht2 : Turn2 br bg w (w.setCell ⟨bg, 3, none⟩ (.int .i64 n')) := ht.mono (fun k hk => .inr (.inl hk))
  obtain ⟨p, h1, hp⟩ := h.rd
  have hb := h.bnd
  refine ⟨⟨⟨p, h1, hp.bytes, hp.below.trans (ht.below (B := w0.heap.size) hp.below.size (fun k hk => by have := h.base; omega)), hp.base, (ht.block _ hp.lt (fun e => by have := h.base; omega)).trans hp.blk⟩, heap_setCell_same w bg 3 _ _ _ h.row, h.base, ht2.list strP_stays h.vlist (fun k h => h), ht2.list (fnP_stays 20) h.flist (fun k h => h), by refine ⟨hb.1, hb.2.1, hb.2.2.1, hn.1, hn.2, hb.2.2.2.2.2.1, hb.2.2.2.2.2.2⟩⟩, ht2⟩
theorem GSt.setLeft (h : GSt w0 br bg a len cap bs fa fc fns u va vc vars next left w) {n' : Int} (hn : -(3 * u) - 3 ≤ n' ∧ n' ≤ 30) : GSt w0 br bg a len cap bs fa fc fns u va vc vars next n' (w.setCell ⟨bg, 4, none⟩ (.int .i64 n')) ∧ Turn2 br bg w (w.setCell ⟨bg, 4, none⟩ (.int .i64 n')) := by
  have ht := turned_store w bg 4 (.int .i64 n')
  have ht2 : Turn2 br bg w (w.setCell ⟨bg, 4, none⟩ (.int .i64 n')) := ht.mono (fun k hk => .inr (.inl hk))
  obtain ⟨p, h1, hp⟩ := h.rd
  have hb := h.bnd
  refine ⟨⟨⟨p, h1, hp.bytes, hp.below.trans (ht.below (B := w0.heap.size) hp.below.size (fun k hk => by have := h.base; omega)), hp.base, (ht.block _ hp.lt (fun e => by have := h.base; omega)).trans hp.blk⟩, heap_setCell_same w bg 4 _ _ _ h.row, h.base, ht2.list strP_stays h.vlist (fun k h => h), ht2.list (fnP_stays 20) h.flist (fun k h => h), by refine ⟨hb.1, hb.2.1, hb.2.2.1, hb.2.2.2.1, hb.2.2.2.2.1, hn.1, hn.2⟩⟩, ht2⟩
theorem GSt.setVars (h : GSt w0 br bg a len cap bs fa fc fns u va vc vars next left w) {va' : Option Addr} {vc' : Nat} {vars' : List ByteArray} (hv : ListK 1 strP (fun k => k ≠ br ∧ k ≠ bg) w va' vars') (hn : vars'.length ≤ u + 3) : GSt w0 br bg a len cap bs fa fc fns u va' vc' vars' next left (w.setCell ⟨bg, 2, none⟩ (.slice va' vars'.length vc')) ∧ Turn2 br bg w (w.setCell ⟨bg, 2, none⟩ (.slice va' vars'.length vc')) := by
  have ht := turned_store w bg 2 (.slice va' vars'.length vc')
  have ht2 : Turn2 br bg w (w.setCell ⟨bg, 2, none⟩ (.slice va' vars'.length vc')) := ht.mono (fun k hk => .inr (.inl hk))
  obtain ⟨p, h1, hp⟩ := h.rd
  have hb := h.bnd
  refine ⟨⟨⟨p, h1, hp.bytes, hp.below.trans (ht.below (B := w0.heap.size) hp.below.size (fun k hk => by have := h.base; omega)), hp.base, (ht.block _ hp.lt (fun e => by have := h.base; omega)).trans hp.blk⟩, heap_setCell_same w bg 2 _ _ _ h.row, h.base, ht2.list strP_stays hv (fun k h => h), ht2.list (fnP_stays 20) h.flist (fun k h => h), by refine ⟨hn, hb.2.1, hb.2.2.1, hb.2.2.2.1, hb.2.2.2.2.1, hb.2.2.2.2.2.1, hb.2.2.2.2.2.2⟩⟩, ht2⟩
end

end Go.Proofs.YtccdmgncjlpebaaDoor
