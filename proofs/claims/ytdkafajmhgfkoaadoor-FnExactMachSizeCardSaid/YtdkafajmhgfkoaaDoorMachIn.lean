
/-
  What the laws' rows hand over of data of the group Mach.
-/
import Derived.Test.YtdkafajmhgfkoaaDoorMachData
import Derived.Test.YtdkafajmhgfkoaaDoorTrod
namespace Go.Proofs.YtdkafajmhgfkoaaDoor
open Go.RowKit

open Go.ChangeShapes Go.WideShapes

theorem cells_int : Tryd.prog.cellsOf 3 = 1 := by kernel_rfl
theorem one {α : Type} {xs : List α} (h : xs.length = 1) : ∃ a, xs = [a] := by
  match xs, h with
  | [a], _ => exact ⟨a, rfl⟩
theorem three {α : Type} {xs : List α} (h : xs.length = 3) : ∃ a b c, xs = [a, b, c] := by
  match xs, h with
  | [a, b, c], _ => exact ⟨a, b, c, rfl⟩
theorem five {α : Type} {xs : List α} (h : xs.length = 5) : ∃ a b c d e, xs = [a, b, c, d, e] := by
  match xs, h with
  | [a, b, c, d, e], _ => exact ⟨a, b, c, d, e, rfl⟩
theorem cells_Mins : Tryd.prog.cellsOf 104 = 5 := by kernel_rfl
set_option maxRecDepth 100000 in
theorem mins_of_trod {H : Type} {enc : TypeId × Value → H} {W : World} {base : Nat} {held : Bool} {fuel : Nat} {cs : List Value} {y : DataW H × List MemPlace}
    (h : DataW.trod enc Tryd.prog W base (fun _ => true) held fuel 104 cs = some y) : ∃ d, MinsR W cs d := by
  obtain ⟨xs, m, _, _, hl, hlen, hf⟩ := DataW.trod_struct Tryd.underlying104 h
  rw [cells_Mins] at hl
  obtain ⟨c0, c1, c2, c3, c4, rfl⟩ := five hl
  obtain ⟨y0, y1, y2, y3, y4, rfl⟩ := five hlen
  have e0 : DataW.trod enc Tryd.prog W base (fun _ => true) held m 3 [c0] = some y0 := by
    have h0 : DataW.trod enc Tryd.prog W base (fun _ => true) held m 3 (([c0, c1, c2, c3, c4].drop 0).take (Tryd.prog.cellsOf 3)) = [y0, y1, y2, y3, y4][0]? := hf 0 _ rfl
    rw [cells_int] at h0
    exact h0
  have e1 : DataW.trod enc Tryd.prog W base (fun _ => true) held m 3 [c1] = some y1 := by
    have h0 : DataW.trod enc Tryd.prog W base (fun _ => true) held m 3 (([c0, c1, c2, c3, c4].drop 1).take (Tryd.prog.cellsOf 3)) = [y0, y1, y2, y3, y4][1]? := hf 1 _ rfl
    rw [cells_int] at h0
    exact h0
  have e2 : DataW.trod enc Tryd.prog W base (fun _ => true) held m 3 [c2] = some y2 := by
    have h0 : DataW.trod enc Tryd.prog W base (fun _ => true) held m 3 (([c0, c1, c2, c3, c4].drop 2).take (Tryd.prog.cellsOf 3)) = [y0, y1, y2, y3, y4][2]? := hf 2 _ rfl
    rw [cells_int] at h0
    exact h0
  have e3 : DataW.trod enc Tryd.prog W base (fun _ => true) held m 3 [c3] = some y3 := by
    have h0 : DataW.trod enc Tryd.prog W base (fun _ => true) held m 3 (([c0, c1, c2, c3, c4].drop 3).take (Tryd.prog.cellsOf 3)) = [y0, y1, y2, y3, y4][3]? := hf 3 _ rfl
    rw [cells_int] at h0
    exact h0
  have e4 : DataW.trod enc Tryd.prog W base (fun _ => true) held m 3 [c4] = some y4 := by
    have h0 : DataW.trod enc Tryd.prog W base (fun _ => true) held m 3 (([c0, c1, c2, c3, c4].drop 4).take (Tryd.prog.cellsOf 3)) = [y0, y1, y2, y3, y4][4]? := hf 4 _ rfl
    rw [cells_int] at h0
    exact h0
  obtain ⟨op, e0, _⟩ := DataW.trod_int Tryd.underlying3 e0
  simp at e0
  subst e0
  obtain ⟨fa, e1, _⟩ := DataW.trod_int Tryd.underlying3 e1
  simp at e1
  subst e1
  obtain ⟨fb, e2, _⟩ := DataW.trod_int Tryd.underlying3 e2
  simp at e2
  subst e2
  obtain ⟨fc, e3, _⟩ := DataW.trod_int Tryd.underlying3 e3
  simp at e3
  subst e3
  obtain ⟨fn, e4, _⟩ := DataW.trod_int Tryd.underlying3 e4
  simp at e4
  subst e4
  exact ⟨⟨op, fa, fb, fc, fn⟩, rfl⟩

set_option maxRecDepth 100000 in
theorem mins_of_arg {H : Type} {enc : TypeId × Value → H} {W : World} {base b0 : Nat} {held : Bool} {r : Reach} {v : Value} {d : DataW H} {ps : List MemPlace} (hv : Value.okWide Tryd.prog W r b0 104 v)
    (h : DataW.Trod enc Tryd.prog W base (fun _ => true) held 104 v d ps) : ∃ cs x, v = .agg (List.toArray cs) ∧ MinsR W cs x := by
  obtain ⟨cs, rfl, _⟩ := okWide_struct Tryd.underlying104 hv
  obtain ⟨fuel, hf⟩ := h
  obtain ⟨x, hx⟩ := mins_of_trod hf
  exact ⟨cs.toList, x, by simp, hx⟩

theorem cells_Mfn : Tryd.prog.cellsOf 86 = 3 := by kernel_rfl
theorem cells_MinsS : Tryd.prog.cellsOf 84 = 1 := by kernel_rfl
set_option maxRecDepth 100000 in
theorem mfn_of_trod {H : Type} {enc : TypeId × Value → H} {W : World} {base : Nat} {held : Bool} {fuel : Nat} {cs : List Value} {y : DataW H × List MemPlace}
    (h : DataW.trod enc Tryd.prog W base (fun _ => true) held fuel 86 cs = some y) : ∃ d, MfnR W cs d := by
  obtain ⟨xs, m, _, _, hl, hlen, hf⟩ := DataW.trod_struct Tryd.underlying86 h
  rw [cells_Mfn] at hl
  obtain ⟨c0, c1, c2, rfl⟩ := three hl
  obtain ⟨y0, y1, y2, rfl⟩ := three hlen
  have e0 : DataW.trod enc Tryd.prog W base (fun _ => true) held m 3 [c0] = some y0 := by
    have h0 : DataW.trod enc Tryd.prog W base (fun _ => true) held m 3 (([c0, c1, c2].drop 0).take (Tryd.prog.cellsOf 3)) = [y0, y1, y2][0]? := hf 0 _ rfl
    rw [cells_int] at h0
    exact h0
  have e1 : DataW.trod enc Tryd.prog W base (fun _ => true) held m 3 [c1] = some y1 := by
    have h0 : DataW.trod enc Tryd.prog W base (fun _ => true) held m 3 (([c0, c1, c2].drop 1).take (Tryd.prog.cellsOf 3)) = [y0, y1, y2][1]? := hf 1 _ rfl
    rw [cells_int] at h0
    exact h0
  have e2 : DataW.trod enc Tryd.prog W base (fun _ => true) held m 84 [c2] = some y2 := by
    have h0 : DataW.trod enc Tryd.prog W base (fun _ => true) held m 84 (([c0, c1, c2].drop 2).take (Tryd.prog.cellsOf 84)) = [y0, y1, y2][2]? := hf 2 _ rfl
    rw [cells_MinsS] at h0
    exact h0
  obtain ⟨params, e0, _⟩ := DataW.trod_int Tryd.underlying3 e0
  simp at e0
  subst e0
  obtain ⟨slots, e1, _⟩ := DataW.trod_int Tryd.underlying3 e1
  simp at e1
  subst e1
  obtain ⟨ins_a, ins_c, ins, e2, ins_m, ins_r⟩ := rows_of_trod (R := MinsR) Tryd.underlying84 cells_Mins (by decide) (fun n cs y h => mins_of_trod h) e2
  simp only [List.cons.injEq, and_true] at e2
  subst e2
  exact ⟨⟨params, slots, ins⟩, ins_a, ins_c, rfl, ⟨ins_m, ins_r⟩⟩

set_option maxRecDepth 100000 in
theorem mfn_of_arg {H : Type} {enc : TypeId × Value → H} {W : World} {base b0 : Nat} {held : Bool} {r : Reach} {v : Value} {d : DataW H} {ps : List MemPlace} (hv : Value.okWide Tryd.prog W r b0 86 v)
    (h : DataW.Trod enc Tryd.prog W base (fun _ => true) held 86 v d ps) : ∃ cs x, v = .agg (List.toArray cs) ∧ MfnR W cs x := by
  obtain ⟨cs, rfl, _⟩ := okWide_struct Tryd.underlying86 hv
  obtain ⟨fuel, hf⟩ := h
  obtain ⟨x, hx⟩ := mfn_of_trod hf
  exact ⟨cs.toList, x, by simp, hx⟩

theorem cells_Mach : Tryd.prog.cellsOf 35 = 1 := by kernel_rfl
theorem cells_MfnS : Tryd.prog.cellsOf 33 = 1 := by kernel_rfl
set_option maxRecDepth 100000 in
theorem mach_of_trod {H : Type} {enc : TypeId × Value → H} {W : World} {base : Nat} {held : Bool} {fuel : Nat} {cs : List Value} {y : DataW H × List MemPlace}
    (h : DataW.trod enc Tryd.prog W base (fun _ => true) held fuel 35 cs = some y) : ∃ d, MachR W cs d := by
  obtain ⟨xs, m, _, _, hl, hlen, hf⟩ := DataW.trod_struct Tryd.underlying35 h
  rw [cells_Mach] at hl
  obtain ⟨c0, rfl⟩ := one hl
  obtain ⟨y0, rfl⟩ := one hlen
  have e0 : DataW.trod enc Tryd.prog W base (fun _ => true) held m 33 [c0] = some y0 := by
    have h0 : DataW.trod enc Tryd.prog W base (fun _ => true) held m 33 (([c0].drop 0).take (Tryd.prog.cellsOf 33)) = [y0][0]? := hf 0 _ rfl
    rw [cells_MfnS] at h0
    exact h0
  obtain ⟨fns_a, fns_c, fns, e0, fns_m, fns_r⟩ := rows_of_trod (R := MfnR) Tryd.underlying33 cells_Mfn (by decide) (fun n cs y h => mfn_of_trod h) e0
  simp only [List.cons.injEq, and_true] at e0
  subst e0
  exact ⟨⟨fns⟩, fns_a, fns_c, rfl, ⟨fns_m, fns_r⟩⟩

set_option maxRecDepth 100000 in
theorem mach_of_arg {H : Type} {enc : TypeId × Value → H} {W : World} {base b0 : Nat} {held : Bool} {r : Reach} {v : Value} {d : DataW H} {ps : List MemPlace} (hv : Value.okWide Tryd.prog W r b0 35 v)
    (h : DataW.Trod enc Tryd.prog W base (fun _ => true) held 35 v d ps) : ∃ cs x, v = .agg (List.toArray cs) ∧ MachR W cs x := by
  obtain ⟨cs, rfl, _⟩ := okWide_struct Tryd.underlying35 hv
  obtain ⟨fuel, hf⟩ := h
  obtain ⟨x, hx⟩ := mach_of_trod hf
  exact ⟨cs.toList, x, by simp, hx⟩


end Go.Proofs.YtdkafajmhgfkoaaDoor
