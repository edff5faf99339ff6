/-
  The program's run of a unit on the heap: a step, a cell, an argument, an ending.
-/
import Derived.Test.YtajnldkempeheaaRq6
import Derived.Deep.RegionHeld3

namespace Go.Proofs.Ytajnldkempeheaa
open Go.RowKit
set_option linter.unusedVariables false
set_option linter.unusedSimpArgs false

/-- A run that is stopped: a panic with its end. -/
def endPanic (en : Int) : Ending := .panicked [{ v := .iface 88 (.int .i64 en), recovered := false }]
/-- How a call ends: with its answer, or with the end of the run. -/
def outE (fin : Option Int) (v : Value) : Ending := match fin with
  | none => .returned v
  | some en => endPanic en
theorem stopI_any (en : Int) (w : World) : Calls Try.prog 72 #[.int .i64 en] w fun e w' => e = endPanic en ∧ w' = w := by
  go_enter Try.func72, Try.ntmps72
  go_wp2
  exact ⟨rfl, rfl, rfl⟩

def mList (ua : Option Addr) (n uc N : Nat) (sv tv : Value) (s : RunS) : List Value := .slice ua n uc :: .int .i64 (N : Int) :: .int .i64 ((N : Int) - (s.left : Int)) :: sv :: (s.cells.map (Value.int .i64) ++ [tv])
/-- The run lies in block rb; all that it may write lies in D, behind what was there at first. -/
structure MSt (w0 : World) (ua : Option Addr) (n uc rb N : Nat) (D : Nat → Prop) (sv tv : Value) (w : World) (s : RunS) : Prop where
  row : w.heap[rb]? = some (.cells (mList ua n uc N sv tv s).toArray 52 (0, 0))
  len : s.cells.length = 16
  fuel : s.left ≤ N
  said : w.ownsRow w0.heap.size 3 1 sv s.said.length (s.said.map (Value.int .i64))
  trace : w.ownsRow w0.heap.size 3 1 tv s.trace.length ((natI s.trace).map (Value.int .i64))
  dr : D rb
  ds : ∀ k, sv.ownBlock = some k → D k ∧ k ≠ rb ∧ tv.ownBlock ≠ some k
  dt : ∀ k, tv.ownBlock = some k → D k ∧ k ≠ rb
  lo : ∀ k, D k → w0.heap.size ≤ k
  hi : ∀ k, D k → k < w.heap.size
  base : Below w0.heap.size w0 w
section
variable {w0 w W w5 : World} {ua : Option Addr} {n uc rb N : Nat} {D : Nat → Prop} {sv tv : Value} {s s' : RunS}
theorem MSt.write (h : MSt w0 ua n uc rb N D sv tv w s) (ht : Turned (fun k => k = rb) w W) (hrow : W.heap[rb]? = some (.cells (mList ua n uc N sv tv s').toArray 52 (0, 0))) (e1 : s'.said = s.said) (e2 : s'.trace = s.trace) (e3 : s'.cells.length = 16) (e4 : s'.left ≤ N) :
    MSt w0 ua n uc rb N D sv tv W s' ∧ Step D w D W :=
  ⟨⟨hrow, e3, e4, by rw [e1]; exact own_turned h.said ht (fun k hk => (h.ds k hk).2.1), by rw [e2]; exact own_turned h.trace ht (fun k hk => (h.dt k hk).2), h.dr, h.ds, h.dt, h.lo, fun k hk => Nat.lt_of_lt_of_le (h.hi k hk) ht.size, h.base.trans (ht.below h.base.size (fun k hk => hk ▸ h.lo _ h.dr))⟩,
   ⟨ht.mono (fun k hk => hk ▸ h.dr), fun _ _ h => h⟩⟩
theorem MSt.stay {D2 : Nat → Prop} (h : MSt w0 ua n uc rb N D sv tv w s) (ht : Turned D2 w W) (hD : ∀ k, D2 k → ¬ D k ∧ w0.heap.size ≤ k) : MSt w0 ua n uc rb N D sv tv W s :=
  ⟨(ht.block rb (Array.getElem?_eq_some_iff.1 h.row).1 (fun e => (hD _ e).1 h.dr)).trans h.row, h.len, h.fuel, own_turned h.said ht (fun k hk e => (hD _ e).1 (h.ds k hk).1), own_turned h.trace ht (fun k hk e => (hD _ e).1 (h.dt k hk).1), h.dr, h.ds, h.dt, h.lo, fun k hk => Nat.lt_of_lt_of_le (h.hi k hk) ht.size, h.base.trans (ht.below h.base.size (fun k hk => (hD k hk).2))⟩
theorem MSt.later (h : MSt w0 ua n uc rb N D sv tv w s) (hb : Below w.heap.size w W) : MSt w0 ua n uc rb N D sv tv W s :=
  h.stay (D2 := fun _ => False) (turned_of_below hb (fun k h1 h2 => by omega)) (fun k hk => hk.elim)
/-- The same run, of which only the end differs. -/
theorem MSt.same (h : MSt w0 ua n uc rb N D sv tv w s) (e1 : s'.said = s.said) (e2 : s'.trace = s.trace) (e3 : s'.cells = s.cells) (e4 : s'.left = s.left) : MSt w0 ua n uc rb N D sv tv w s' := by
  obtain ⟨h1, h2, h3, h4, h5, h6, h7, h8, h9, h10, h11⟩ := h
  refine ⟨?_, by rw [e3]; exact h2, by rw [e4]; exact h3, by rw [e1]; exact h4, by rw [e2]; exact h5, h6, h7, h8, h9, h10, h11⟩
  rw [h1, mList, mList, e3, e4]
theorem MSt.stop (h : MSt w0 ua n uc rb N D sv tv w s) (en : Int) : MSt w0 ua n uc rb N D sv tv w (s.stop en) := h.same (stop_said s en) (stop_trace s en) (stop_cells s en) (stop_left s en)
theorem MSt.cell (h : MSt w0 ua n uc rb N D sv tv w s) (i : Nat) : w.cell? ⟨rb, i, none⟩ = (mList ua n uc N sv tv s)[i]? := by
  rw [cell_of_row _ _ i _ _ _ h.row]; simp
theorem MSt.free (h : MSt w0 ua n uc rb N D sv tv w s) (i : Nat) : w.frozen? ⟨rb, i, none⟩ = false := frozen_of_row _ _ i _ _ h.row
theorem MSt.cellAt (h : MSt w0 ua n uc rb N D sv tv w s) {j : Nat} (hj : j < 16) : w.cell? ⟨rb, 4 + j, none⟩ = some (.int .i64 (atI s.cells (j : Int))) := by
  rw [h.cell, Nat.add_comm]
  show (s.cells.map (Value.int .i64) ++ [tv])[j]? = _
  rw [List.getElem?_append_left (by simp [h.len]; omega), List.getElem?_map, atI_some (by rw [h.len]; exact hj)]; rfl
theorem MSt.cellT (h : MSt w0 ua n uc rb N D sv tv w s) : w.cell? ⟨rb, 20, none⟩ = some tv := by
  rw [h.cell]
  show (s.cells.map (Value.int .i64) ++ [tv])[16]? = _
  rw [List.getElem?_append_right (by simp [h.len]), List.length_map, h.len]; rfl
theorem MSt.putc (h : MSt w0 ua n uc rb N D sv tv w s) {j : Nat} (hj : j < 16) (v : Int) : MSt w0 ua n uc rb N D sv tv (w.setCell ⟨rb, 4 + j, none⟩ (.int .i64 v)) { s with cells := setI s.cells (j : Int) v } ∧ Step D w D (w.setCell ⟨rb, 4 + j, none⟩ (.int .i64 v)) := by
  refine h.write (turned_store _ _ _ _) ?_ rfl rfl (by rw [setI_length]; exact h.len) h.fuel
  rw [heap_setCell_same w rb (4 + j) _ _ _ h.row, List.setIfInBounds_toArray, Nat.add_comm]
  show some (Obj.cells (_ :: _ :: _ :: _ :: ((s.cells.map (Value.int .i64) ++ [tv]).set j (.int .i64 v))).toArray _ _) = _
  rw [List.set_append_left _ _ (by simp [h.len]; omega), ← List.map_set]
  rfl

set_option maxRecDepth 100000 in
theorem tickI_any (h : MSt w0 ua n uc rb N D sv tv w s) (hN : N ≤ 60000) (hf : s.fin = none) :
    Calls Try.prog 51 #[.pointer (some ⟨rb, 0, none⟩)] w fun e' w' => e' = outE s.take.fin (.tuple #[]) ∧ MSt w0 ua n uc rb N D sv tv w' s.take ∧ Step D w D w' := by
  have k1 := h.cell 1
  have k2 := h.cell 2
  have z2 := h.free 2
  have hfu := h.fuel
  simp only [mList, List.getElem?_cons_zero, List.getElem?_cons_succ] at k1 k2
  by_cases h0 : s.left = 0
  · have he : (((N : Int) - (s.left : Int)) == (N : Int)) = true := by rw [beq_iff_eq]; omega
    have HT := Lib.hid (show s.take = s.stop 3 by unfold RunS.take RunS.stop; rw [hf]; simp [h0])
    have HF := Lib.hid (show s.take.fin = some 3 by rw [take_none hf h0])
    have HE := Lib.hid (fun q => show MSt w0 ua n uc rb N D sv tv (w.drewN q) s.take ∧ Step D w D (w.drewN q) from by
      rw [HT.out]
      exact ⟨(h.stop 3).later (below_drewN (Below.refl _ _) q), Step.new (below_drewN (Below.refl _ _) q)⟩)
    clear h h0 z2
    generalize (N : Int) - (s.left : Int) = U at k2 he
    go_enter Try.func51, Try.ntmps51
    go_upto_region 0 with fail
    go_quiet (fail)
    go_wp2_with fail
    refine (stopI_any 3 _).mono ?_
    rintro e w1 ⟨rfl, rfl⟩
    exact ⟨rfl, by rw [HF.out]; rfl, HE.out _⟩
  · have he : (((N : Int) - (s.left : Int)) == (N : Int)) = false := by rw [beq_eq_false_iff_ne]; omega
    have HF := Lib.hid (show s.take.fin = none by rw [take_some hf h0]; exact hf)
    have HE := Lib.hid (fun q => show MSt w0 ua n uc rb N D sv tv ((w.drewN q).setCell ⟨rb, 2, none⟩ (.int .i64 ((N : Int) - (s.left : Int) + 1))) s.take ∧ Step D w D ((w.drewN q).setCell ⟨rb, 2, none⟩ (.int .i64 ((N : Int) - (s.left : Int) + 1))) from by
      have hb := below_drewN (Below.refl w.heap.size w) q
      have h2 := (h.later hb).write (s' := s.take) (turned_store (w.drewN q) rb 2 (.int .i64 ((N : Int) - (s.left : Int) + 1))) (by
        rw [heap_setCell_same (w.drewN q) rb 2 _ _ _ (h.later hb).row, List.setIfInBounds_toArray, take_some hf h0]
        show some (Obj.cells (_ :: _ :: Value.int .i64 ((N : Int) - (s.left : Int) + 1) :: _).toArray _ _) = some (Obj.cells (_ :: _ :: Value.int .i64 ((N : Int) - ((s.left - 1 : Nat) : Int)) :: _).toArray _ _)
        rw [show (N : Int) - (s.left : Int) + 1 = (N : Int) - ((s.left - 1 : Nat) : Int) by omega]) (take_said s) (take_trace s) (by rw [take_cells]; exact h.len) (by have := RunS.take_left s; omega)
      exact ⟨h2.1, (Step.new hb).trans h2.2⟩)
    have hu : 0 ≤ (N : Int) - (s.left : Int) ∧ (N : Int) - (s.left : Int) ≤ 60000 := by omega
    clear h h0
    generalize (N : Int) - (s.left : Int) = U at k2 he HE hu
    go_enter Try.func51, Try.ntmps51
    go_upto_region 0 with fail
    go_quiet (fail)
    go_wp2
    go_end0
    exact ⟨by rw [HF.out]; rfl, HE.out _⟩
/-- A cell's place. -/
theorem cellI_any {j : Nat} (hj : j < 16) (w : World) : Calls Try.prog 70 #[.pointer (some ⟨rb, 0, none⟩), .int .i64 (j : Int)] w fun e w' => e = .returned (.pointer (some ⟨rb, 4 + j, none⟩)) ∧ w' = w := by
  have h1 : decide ((j : Int) ≥ 16) = false := decide_eq_false (by omega)
  have h2 : (j : Int) < 16 := by omega
  go_enter Try.func70, Try.ntmps70
  go_wp2
  go_ret
  exact ⟨rfl, rfl⟩
theorem cellI_far {a : Int} (ha : 16 ≤ a) (w : World) : Calls Try.prog 70 #[.pointer (some ⟨rb, 0, none⟩), .int .i64 a] w fun e w' => e = endPanic 2 ∧ w' = w := by
  have h1 : decide (a ≥ 16) = true := decide_eq_true ha
  clear ha
  go_enter Try.func70, Try.ntmps70
  go_wp2_with fail
  refine (stopI_any 2 _).mono ?_
  rintro e w1 ⟨rfl, rfl⟩
  exact ⟨rfl, rfl, rfl⟩
set_option maxRecDepth 100000 in
/-- An argument: a register that an instruction names. -/
theorem argI_any {gb n xb gx : Nat} {ab ao : Nat} {L ac k r : Nat} {v : Int} (w : World) (c1 : w.cell? ⟨gx, 0, none⟩ = some (.slice (some ⟨gb, 0, none⟩) n n)) (c2 : w.cell? ⟨xb, 2, none⟩ = some (.slice (some ⟨ab, ao, none⟩) L ac)) (hk : k < L) (hL : L ≤ 1048576) (c3 : w.cell? ⟨ab, ao + k, none⟩ = some (.int .i64 (r : Int))) (hr : r < n) (hn : n ≤ 300) (c4 : w.cell? ⟨gb, r, none⟩ = some (.int .i64 v)) :
    Calls Try.prog 69 #[.int .i64 (k : Int), .pointer (some ⟨gx, 0, none⟩), .pointer (some ⟨xb, 0, none⟩)] w fun e w' => e = .returned (.int .i64 v) ∧ ∃ q, w' = w.drewN q := by
  have h1 : (k : Int) < (L : Int) := by omega
  have h2 : (r : Int) < (n : Int) := by omega
  go_enter Try.func69, Try.ntmps69
  go_upto_region 1 with fail
  go_quiet (fail)
  go_wp2
  go_ret
  exact ⟨rfl, _, rfl⟩
end

end Go.Proofs.Ytajnldkempeheaa
