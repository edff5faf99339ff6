/-
  The reference's run of a unit on the heap: a step is taken, the run is stopped.
-/
import Derived.Test.YtajnldkempeheaaRv

namespace Go.Proofs.Ytajnldkempeheaa
open Go.RowKit
set_option linter.unusedVariables false
set_option linter.unusedSimpArgs false

/-- From one world to a later one: what is not in D stays, and D grows by new blocks alone. -/
structure Step (D : Nat → Prop) (w : World) (D' : Nat → Prop) (w' : World) : Prop where
  turned : Turned D w w'
  dom : ∀ k, k < w.heap.size → D' k → D k
theorem Step.refl (D : Nat → Prop) (w : World) : Step D w D w := ⟨Turned.refl _ _, fun _ _ h => h⟩
theorem Step.trans {D D1 D2 : Nat → Prop} {w w1 w2 : World} (h : Step D w D1 w1) (k : Step D1 w1 D2 w2) : Step D w D2 w2 :=
  ⟨⟨k.turned.os.trans h.turned.os, k.turned.tape.trans h.turned.tape, k.turned.output.trans h.turned.output, Nat.le_trans h.turned.size k.turned.size,
    fun i hi hn => (k.turned.block i (Nat.lt_of_lt_of_le hi h.turned.size) (fun hd => hn (h.dom i hi hd))).trans (h.turned.block i hi hn)⟩,
   fun i hi hd => h.dom i hi (k.dom i (Nat.lt_of_lt_of_le hi h.turned.size) hd)⟩
theorem Step.new {D : Nat → Prop} {w w' : World} (hb : Below w.heap.size w w') : Step D w D w' := ⟨turned_of_below hb (fun k h1 h2 => by omega), fun _ _ h => h⟩
theorem Step.block {D D' : Nat → Prop} {w w' : World} (h : Step D w D' w') {k : Nat} {o : Obj} (hk : w.heap[k]? = some o) (hn : ¬ D k) : w'.heap[k]? = some o :=
  (h.turned.block k (Array.getElem?_eq_some_iff.1 hk).1 hn).trans hk
theorem Step.cell {D D' : Nat → Prop} {w w' : World} (h : Step D w D' w') {k i : Nat} {v : Value} (hk : w.cell? ⟨k, i, none⟩ = some v) (hn : ¬ D k) : w'.cell? ⟨k, i, none⟩ = some v :=
  (World.cell?_of_block (h.turned.block k (World.block_lt_of_cell? w _ hk) hn)).trans hk
theorem Step.out {D D' : Nat → Prop} {w w' : World} (h : Step D w D' w') {k : Nat} (hk : k < w.heap.size) (hn : ¬ D k) : ¬ D' k := fun hd => hn (h.dom k hk hd)
def natI (xs : List Nat) : List Int := xs.map (fun k : Nat => (k : Int))
/-- The cells of the reference's run. -/
def sRow (ua : Option Addr) (n uc cb : Nat) (sv tv : Value) (s : RunS) : Array Value := #[.slice ua n uc, sv, .int .i64 (s.fin.getD 0), .int .i64 0, .slice (some ⟨cb, 0, none⟩) 16 16, .int .i64 s.left, .bool s.fin.isSome, tv]
/-- The run lies in block rb, its cells in cb, all that it may write in D, behind what was there at first. -/
structure SSt (w0 : World) (ua : Option Addr) (n uc rb cb : Nat) (D : Nat → Prop) (sv tv : Value) (w : World) (s : RunS) : Prop where
  row : w.heap[rb]? = some (.cells (sRow ua n uc cb sv tv s) 56 (0, 0))
  said : w.ownsRow w0.heap.size 3 1 sv s.said.length (s.said.map (Value.int .i64))
  trace : w.ownsRow w0.heap.size 3 1 tv s.trace.length ((natI s.trace).map (Value.int .i64))
  cells : w.ownsRow w0.heap.size 3 1 (.slice (some ⟨cb, 0, none⟩) 16 16) 16 (s.cells.map (Value.int .i64))
  ne : rb ≠ cb
  dr : D rb
  dc : D cb
  ds : ∀ k, sv.ownBlock = some k → D k ∧ k ≠ rb ∧ k ≠ cb ∧ tv.ownBlock ≠ some k
  dt : ∀ k, tv.ownBlock = some k → D k ∧ k ≠ rb ∧ k ≠ cb
  lo : ∀ k, D k → w0.heap.size ≤ k
  hi : ∀ k, D k → k < w.heap.size
  base : Below w0.heap.size w0 w
section
variable {w0 w W : World} {ua : Option Addr} {n uc rb cb : Nat} {D : Nat → Prop} {sv tv : Value} {s s' : RunS}
theorem SSt.write (h : SSt w0 ua n uc rb cb D sv tv w s) (ht : Turned (fun k => k = rb) w W) (hrow : W.heap[rb]? = some (.cells (sRow ua n uc cb sv tv s') 56 (0, 0))) (e1 : s'.said = s.said) (e2 : s'.trace = s.trace) (e3 : s'.cells = s.cells) :
    SSt w0 ua n uc rb cb D sv tv W s' ∧ Step D w D W :=
  ⟨⟨hrow, by rw [e1]; exact own_turned h.said ht (fun k hk => (h.ds k hk).2.1), by rw [e2]; exact own_turned h.trace ht (fun k hk => (h.dt k hk).2.1), by rw [e3]; exact own_turned h.cells ht (fun k hk => by cases hk; exact fun e => h.ne e.symm), h.ne, h.dr, h.dc, h.ds, h.dt, h.lo, fun k hk => Nat.lt_of_lt_of_le (h.hi k hk) ht.size, h.base.trans (ht.below h.base.size (fun k hk => hk ▸ h.lo _ h.dr))⟩,
   ⟨ht.mono (fun k hk => hk ▸ h.dr), fun _ _ h => h⟩⟩
/-- The same in a world where D's blocks stand. -/
theorem SSt.stay {D2 : Nat → Prop} (h : SSt w0 ua n uc rb cb D sv tv w s) (ht : Turned D2 w W) (hD : ∀ k, D2 k → ¬ D k ∧ w0.heap.size ≤ k) : SSt w0 ua n uc rb cb D sv tv W s :=
  ⟨(ht.block rb (Array.getElem?_eq_some_iff.1 h.row).1 (fun e => (hD _ e).1 h.dr)).trans h.row, own_turned h.said ht (fun k hk e => (hD _ e).1 (h.ds k hk).1), own_turned h.trace ht (fun k hk e => (hD _ e).1 (h.dt k hk).1), own_turned h.cells ht (fun k hk e => by cases hk; exact (hD _ e).1 h.dc), h.ne, h.dr, h.dc, h.ds, h.dt, h.lo, fun k hk => Nat.lt_of_lt_of_le (h.hi k hk) ht.size, h.base.trans (ht.below h.base.size (fun k hk => (hD k hk).2))⟩
theorem SSt.later (h : SSt w0 ua n uc rb cb D sv tv w s) (hb : Below w.heap.size w W) : SSt w0 ua n uc rb cb D sv tv W s :=
  h.stay (D2 := fun _ => False) (turned_of_below hb (fun k h1 h2 => by omega)) (fun k hk => hk.elim)
theorem SSt.cell (h : SSt w0 ua n uc rb cb D sv tv w s) (i : Nat) : w.cell? ⟨rb, i, none⟩ = (sRow ua n uc cb sv tv s)[i]? := cell_of_row _ _ i _ _ _ h.row
theorem SSt.free (h : SSt w0 ua n uc rb cb D sv tv w s) (i : Nat) : w.frozen? ⟨rb, i, none⟩ = false := frozen_of_row _ _ i _ _ h.row

set_option maxRecDepth 100000 in
theorem stopS_any (e : Int) (h : SSt w0 ua n uc rb cb D sv tv w s) :
    Calls Try.prog 75 #[.pointer (some ⟨rb, 0, none⟩), .int .i64 e] w fun e' w' => e' = .returned (.tuple #[]) ∧ SSt w0 ua n uc rb cb D sv tv w' (s.stop e) ∧ Step D w D w' := by
  have k6 := h.cell 6
  have z2 := h.free 2
  have z6 := h.free 6
  have k2 := h.cell 2
  simp only [sRow, List.getElem?_toArray, List.getElem?_cons_zero, List.getElem?_cons_succ] at k6 k2
  cases hf : s.fin with
  | some x =>
    rw [hf] at k6
    have HE := Lib.hid (show SSt w0 ua n uc rb cb D sv tv w (s.stop e) ∧ Step D w D w from ⟨by unfold RunS.stop; rw [hf]; exact h, Step.refl _ _⟩)
    clear h hf k2 z2 z6
    go_enter Try.func75, Try.ntmps75
    go_wp2
    go_end0
    exact ⟨rfl, HE.out⟩
  | none =>
    rw [hf] at k6
    have HE := Lib.hid (show SSt w0 ua n uc rb cb D sv tv ((w.setCell ⟨rb, 2, none⟩ (.int .i64 e)).setCell ⟨rb, 6, none⟩ (.bool true)) (s.stop e) ∧ Step D w D ((w.setCell ⟨rb, 2, none⟩ (.int .i64 e)).setCell ⟨rb, 6, none⟩ (.bool true)) from by
      have e0 : s.stop e = { s with fin := some e } := by unfold RunS.stop; rw [hf]
      rw [e0]
      refine h.write ((turned_store _ _ _ _).trans (turned_store _ _ _ _)) ?_ rfl rfl rfl
      rw [heap_setCell_same _ rb 6 _ _ _ (heap_setCell_same _ rb 2 _ _ _ h.row)]
      rfl)
    clear h hf
    go_enter Try.func75, Try.ntmps75
    go_wp2
    go_end0
    exact ⟨rfl, HE.out⟩
set_option maxRecDepth 100000 in
theorem takeS_any (h : SSt w0 ua n uc rb cb D sv tv w s) (hl : s.left ≤ 60000) :
    Calls Try.prog 53 #[.pointer (some ⟨rb, 0, none⟩)] w fun e' w' => e' = .returned (.bool s.take.fin.isNone) ∧ SSt w0 ua n uc rb cb D sv tv w' s.take ∧ Step D w D w' := by
  have k5 := h.cell 5
  simp only [sRow, List.getElem?_toArray, List.getElem?_cons_zero, List.getElem?_cons_succ] at k5
  by_cases h0 : s.left = 0
  · have HT := Lib.hid (show s.take = s.stop 3 by unfold RunS.take RunS.stop; split <;> simp [h0])
    have HS := Lib.hid (stopS_any 3 h)
    rw [h0] at k5
    have HF := Lib.hid (show (s.stop 3).fin.isSome = true by unfold RunS.stop; split <;> simp_all)
    clear h h0 hl
    go_enter Try.func53, Try.ntmps53
    go_wp2_with fail
    refine HS.out.mono ?_
    rintro e w1 ⟨rfl, h1, hs1⟩
    have k6 := h1.cell 6
    simp only [sRow, List.getElem?_toArray, List.getElem?_cons_zero, List.getElem?_cons_succ] at k6
    rw [HF.out] at k6
    have HE := Lib.hid (And.intro h1 hs1)
    clear h1 hs1 k5
    go_wp2
    go_ret
    exact ⟨ret_bool (by rw [HT.out]; have := HF.out; cases hq : (s.stop 3).fin <;> simp_all), by rw [HT.out]; exact HE.out⟩
  · have k6 := h.cell 6
    have z5 := h.free 5
    simp only [sRow, List.getElem?_toArray, List.getElem?_cons_zero, List.getElem?_cons_succ] at k6
    have e5 : ((s.left : Int) == 0) = false := by simp; omega
    have hl1 : 0 < s.left := by omega
    cases hf : s.fin with
    | some x =>
      rw [hf] at k6
      have HT := Lib.hid (show s.take = s by unfold RunS.take; rw [hf])
      have HF := Lib.hid hf
      have HE := Lib.hid h
      clear h hf h0
      generalize s.left = L at k5 e5 hl hl1
      go_enter Try.func53, Try.ntmps53
      go_wp2
      go_ret
      exact ⟨ret_bool (by rw [HT.out, HF.out]; rfl), by rw [HT.out]; exact HE.out, Step.refl _ _⟩
    | none =>
      rw [hf] at k6
      have HT := Lib.hid (show s.take.fin = none by rw [take_some hf h0]; exact hf)
      have HE := Lib.hid (show SSt w0 ua n uc rb cb D sv tv (w.setCell ⟨rb, 5, none⟩ (.int .i64 ((s.left : Int) - 1))) s.take ∧ Step D w D (w.setCell ⟨rb, 5, none⟩ (.int .i64 ((s.left : Int) - 1))) from by
        rw [take_some hf h0]
        refine h.write (turned_store _ _ _ _) ?_ rfl rfl rfl
        rw [heap_setCell_same _ rb 5 _ _ _ h.row, show ((s.left : Int) - 1) = ((s.left - 1 : Nat) : Int) by omega]
        rfl)
      clear h hf h0
      generalize s.left = L at k5 e5 hl hl1 HE
      go_enter Try.func53, Try.ntmps53
      go_wp2
      go_ret
      exact ⟨ret_bool (by rw [HT.out]; rfl), HE.out⟩
end

end Go.Proofs.Ytajnldkempeheaa
