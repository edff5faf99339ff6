
/-
  What the laws' rows hand over of data of the group Unit.
-/
import Derived.Test.YtonlidgmfmgcmaaGreatUnitData
import Derived.Test.YtonlidgmfmgcmaaGreatTrod
namespace Go.Proofs.YtonlidgmfmgcmaaGreat
open Go.RowKit

open Go.ChangeShapes Go.WideShapes

theorem cells_int : Tryz.prog.cellsOf 3 = 1 := by kernel_rfl
theorem cells_ints : Tryz.prog.cellsOf 26 = 1 := by kernel_rfl
theorem two {α : Type} {xs : List α} (h : xs.length = 2) : ∃ a b, xs = [a, b] := by
  match xs, h with
  | [a, b], _ => exact ⟨a, b, rfl⟩
theorem one {α : Type} {xs : List α} (h : xs.length = 1) : ∃ a, xs = [a] := by
  match xs, h with
  | [a], _ => exact ⟨a, rfl⟩
theorem three {α : Type} {xs : List α} (h : xs.length = 3) : ∃ a b c, xs = [a, b, c] := by
  match xs, h with
  | [a, b, c], _ => exact ⟨a, b, c, rfl⟩
theorem four {α : Type} {xs : List α} (h : xs.length = 4) : ∃ a b c d, xs = [a, b, c, d] := by
  match xs, h with
  | [a, b, c, d], _ => exact ⟨a, b, c, d, rfl⟩
theorem five {α : Type} {xs : List α} (h : xs.length = 5) : ∃ a b c d e, xs = [a, b, c, d, e] := by
  match xs, h with
  | [a, b, c, d, e], _ => exact ⟨a, b, c, d, e, rfl⟩
theorem cells_Phi : Tryz.prog.cellsOf 123 = 2 := by kernel_rfl
set_option maxRecDepth 100000 in
theorem phi_of_trod {H : Type} {enc : TypeId × Value → H} {W : World} {base : Nat} {held : Bool} {fuel : Nat} {cs : List Value} {y : DataW H × List MemPlace}
    (h : DataW.trod enc Tryz.prog W base (fun _ => true) held fuel 123 cs = some y) : ∃ d, PhiR W cs d := by
  obtain ⟨xs, m, _, _, hl, hlen, hf⟩ := DataW.trod_struct Tryz.underlying123 h
  rw [cells_Phi] at hl
  obtain ⟨c0, c1, rfl⟩ := two hl
  obtain ⟨y0, y1, rfl⟩ := two hlen
  have e0 : DataW.trod enc Tryz.prog W base (fun _ => true) held m 3 [c0] = some y0 := by
    have h0 : DataW.trod enc Tryz.prog W base (fun _ => true) held m 3 (([c0, c1].drop 0).take (Tryz.prog.cellsOf 3)) = [y0, y1][0]? := hf 0 _ rfl
    rw [cells_int] at h0
    exact h0
  have e1 : DataW.trod enc Tryz.prog W base (fun _ => true) held m 26 [c1] = some y1 := by
    have h0 : DataW.trod enc Tryz.prog W base (fun _ => true) held m 26 (([c0, c1].drop 1).take (Tryz.prog.cellsOf 26)) = [y0, y1][1]? := hf 1 _ rfl
    rw [cells_ints] at h0
    exact h0
  obtain ⟨to, e0, _⟩ := DataW.trod_int Tryz.underlying3 e0
  simp at e0
  subst e0
  obtain ⟨args_a, args_c, args, e1, args_m, args_r⟩ := ints_of_trod Tryz.underlying26 Tryz.underlying3 cells_int e1
  simp only [List.cons.injEq, and_true] at e1
  subst e1
  exact ⟨⟨to, args⟩, args_a, args_c, rfl, ⟨args_m, args_r⟩⟩

set_option maxRecDepth 100000 in
theorem phi_of_arg {H : Type} {enc : TypeId × Value → H} {W : World} {base b0 : Nat} {held : Bool} {r : Reach} {v : Value} {d : DataW H} {ps : List MemPlace} (hv : Value.okWide Tryz.prog W r b0 123 v)
    (h : DataW.Trod enc Tryz.prog W base (fun _ => true) held 123 v d ps) : ∃ cs x, v = .agg (List.toArray cs) ∧ PhiR W cs x := by
  obtain ⟨cs, rfl, _⟩ := okWide_struct Tryz.underlying123 hv
  obtain ⟨fuel, hf⟩ := h
  obtain ⟨x, hx⟩ := phi_of_trod hf
  exact ⟨cs.toList, x, by simp, hx⟩

theorem cells_Ins : Tryz.prog.cellsOf 125 = 4 := by kernel_rfl
set_option maxRecDepth 100000 in
theorem ins_of_trod {H : Type} {enc : TypeId × Value → H} {W : World} {base : Nat} {held : Bool} {fuel : Nat} {cs : List Value} {y : DataW H × List MemPlace}
    (h : DataW.trod enc Tryz.prog W base (fun _ => true) held fuel 125 cs = some y) : ∃ d, InsR W cs d := by
  obtain ⟨xs, m, _, _, hl, hlen, hf⟩ := DataW.trod_struct Tryz.underlying125 h
  rw [cells_Ins] at hl
  obtain ⟨c0, c1, c2, c3, rfl⟩ := four hl
  obtain ⟨y0, y1, y2, y3, rfl⟩ := four hlen
  have e0 : DataW.trod enc Tryz.prog W base (fun _ => true) held m 3 [c0] = some y0 := by
    have h0 : DataW.trod enc Tryz.prog W base (fun _ => true) held m 3 (([c0, c1, c2, c3].drop 0).take (Tryz.prog.cellsOf 3)) = [y0, y1, y2, y3][0]? := hf 0 _ rfl
    rw [cells_int] at h0
    exact h0
  have e1 : DataW.trod enc Tryz.prog W base (fun _ => true) held m 3 [c1] = some y1 := by
    have h0 : DataW.trod enc Tryz.prog W base (fun _ => true) held m 3 (([c0, c1, c2, c3].drop 1).take (Tryz.prog.cellsOf 3)) = [y0, y1, y2, y3][1]? := hf 1 _ rfl
    rw [cells_int] at h0
    exact h0
  have e2 : DataW.trod enc Tryz.prog W base (fun _ => true) held m 26 [c2] = some y2 := by
    have h0 : DataW.trod enc Tryz.prog W base (fun _ => true) held m 26 (([c0, c1, c2, c3].drop 2).take (Tryz.prog.cellsOf 26)) = [y0, y1, y2, y3][2]? := hf 2 _ rfl
    rw [cells_ints] at h0
    exact h0
  have e3 : DataW.trod enc Tryz.prog W base (fun _ => true) held m 3 [c3] = some y3 := by
    have h0 : DataW.trod enc Tryz.prog W base (fun _ => true) held m 3 (([c0, c1, c2, c3].drop 3).take (Tryz.prog.cellsOf 3)) = [y0, y1, y2, y3][3]? := hf 3 _ rfl
    rw [cells_int] at h0
    exact h0
  obtain ⟨op, e0, _⟩ := DataW.trod_int Tryz.underlying3 e0
  simp at e0
  subst e0
  obtain ⟨to, e1, _⟩ := DataW.trod_int Tryz.underlying3 e1
  simp at e1
  subst e1
  obtain ⟨args_a, args_c, args, e2, args_m, args_r⟩ := ints_of_trod Tryz.underlying26 Tryz.underlying3 cells_int e2
  simp only [List.cons.injEq, and_true] at e2
  subst e2
  obtain ⟨num, e3, _⟩ := DataW.trod_int Tryz.underlying3 e3
  simp at e3
  subst e3
  exact ⟨⟨op, to, args, num⟩, args_a, args_c, rfl, ⟨args_m, args_r⟩⟩

set_option maxRecDepth 100000 in
theorem ins_of_arg {H : Type} {enc : TypeId × Value → H} {W : World} {base b0 : Nat} {held : Bool} {r : Reach} {v : Value} {d : DataW H} {ps : List MemPlace} (hv : Value.okWide Tryz.prog W r b0 125 v)
    (h : DataW.Trod enc Tryz.prog W base (fun _ => true) held 125 v d ps) : ∃ cs x, v = .agg (List.toArray cs) ∧ InsR W cs x := by
  obtain ⟨cs, rfl, _⟩ := okWide_struct Tryz.underlying125 hv
  obtain ⟨fuel, hf⟩ := h
  obtain ⟨x, hx⟩ := ins_of_trod hf
  exact ⟨cs.toList, x, by simp, hx⟩

theorem cells_Block : Tryz.prog.cellsOf 106 = 5 := by kernel_rfl
theorem cells_PhiS : Tryz.prog.cellsOf 103 = 1 := by kernel_rfl
theorem cells_InsS : Tryz.prog.cellsOf 104 = 1 := by kernel_rfl
set_option maxRecDepth 100000 in
theorem block_of_trod {H : Type} {enc : TypeId × Value → H} {W : World} {base : Nat} {held : Bool} {fuel : Nat} {cs : List Value} {y : DataW H × List MemPlace}
    (h : DataW.trod enc Tryz.prog W base (fun _ => true) held fuel 106 cs = some y) : ∃ d, BlockR W cs d := by
  obtain ⟨xs, m, _, _, hl, hlen, hf⟩ := DataW.trod_struct Tryz.underlying106 h
  rw [cells_Block] at hl
  obtain ⟨c0, c1, c2, c3, c4, rfl⟩ := five hl
  obtain ⟨y0, y1, y2, y3, y4, rfl⟩ := five hlen
  have e0 : DataW.trod enc Tryz.prog W base (fun _ => true) held m 103 [c0] = some y0 := by
    have h0 : DataW.trod enc Tryz.prog W base (fun _ => true) held m 103 (([c0, c1, c2, c3, c4].drop 0).take (Tryz.prog.cellsOf 103)) = [y0, y1, y2, y3, y4][0]? := hf 0 _ rfl
    rw [cells_PhiS] at h0
    exact h0
  have e1 : DataW.trod enc Tryz.prog W base (fun _ => true) held m 104 [c1] = some y1 := by
    have h0 : DataW.trod enc Tryz.prog W base (fun _ => true) held m 104 (([c0, c1, c2, c3, c4].drop 1).take (Tryz.prog.cellsOf 104)) = [y0, y1, y2, y3, y4][1]? := hf 1 _ rfl
    rw [cells_InsS] at h0
    exact h0
  have e2 : DataW.trod enc Tryz.prog W base (fun _ => true) held m 3 [c2] = some y2 := by
    have h0 : DataW.trod enc Tryz.prog W base (fun _ => true) held m 3 (([c0, c1, c2, c3, c4].drop 2).take (Tryz.prog.cellsOf 3)) = [y0, y1, y2, y3, y4][2]? := hf 2 _ rfl
    rw [cells_int] at h0
    exact h0
  have e3 : DataW.trod enc Tryz.prog W base (fun _ => true) held m 3 [c3] = some y3 := by
    have h0 : DataW.trod enc Tryz.prog W base (fun _ => true) held m 3 (([c0, c1, c2, c3, c4].drop 3).take (Tryz.prog.cellsOf 3)) = [y0, y1, y2, y3, y4][3]? := hf 3 _ rfl
    rw [cells_int] at h0
    exact h0
  have e4 : DataW.trod enc Tryz.prog W base (fun _ => true) held m 26 [c4] = some y4 := by
    have h0 : DataW.trod enc Tryz.prog W base (fun _ => true) held m 26 (([c0, c1, c2, c3, c4].drop 4).take (Tryz.prog.cellsOf 26)) = [y0, y1, y2, y3, y4][4]? := hf 4 _ rfl
    rw [cells_ints] at h0
    exact h0
  obtain ⟨phis_a, phis_c, phis, e0, phis_m, phis_r⟩ := rows_of_trod (R := PhiR) Tryz.underlying103 cells_Phi (by decide) (fun n cs y h => phi_of_trod h) e0
  simp only [List.cons.injEq, and_true] at e0
  subst e0
  obtain ⟨ins_a, ins_c, ins, e1, ins_m, ins_r⟩ := rows_of_trod (R := InsR) Tryz.underlying104 cells_Ins (by decide) (fun n cs y h => ins_of_trod h) e1
  simp only [List.cons.injEq, and_true] at e1
  subst e1
  obtain ⟨jump, e2, _⟩ := DataW.trod_int Tryz.underlying3 e2
  simp at e2
  subst e2
  obtain ⟨jon, e3, _⟩ := DataW.trod_int Tryz.underlying3 e3
  simp at e3
  subst e3
  obtain ⟨nx_a, nx_c, nx, e4, nx_m, nx_r⟩ := ints_of_trod Tryz.underlying26 Tryz.underlying3 cells_int e4
  simp only [List.cons.injEq, and_true] at e4
  subst e4
  exact ⟨⟨phis, ins, jump, jon, nx⟩, phis_a, phis_c, ins_a, ins_c, nx_a, nx_c, rfl, ⟨phis_m, phis_r⟩, ⟨ins_m, ins_r⟩, ⟨nx_m, nx_r⟩⟩

set_option maxRecDepth 100000 in
theorem block_of_arg {H : Type} {enc : TypeId × Value → H} {W : World} {base b0 : Nat} {held : Bool} {r : Reach} {v : Value} {d : DataW H} {ps : List MemPlace} (hv : Value.okWide Tryz.prog W r b0 106 v)
    (h : DataW.Trod enc Tryz.prog W base (fun _ => true) held 106 v d ps) : ∃ cs x, v = .agg (List.toArray cs) ∧ BlockR W cs x := by
  obtain ⟨cs, rfl, _⟩ := okWide_struct Tryz.underlying106 hv
  obtain ⟨fuel, hf⟩ := h
  obtain ⟨x, hx⟩ := block_of_trod hf
  exact ⟨cs.toList, x, by simp, hx⟩

theorem cells_Code : Tryz.prog.cellsOf 64 = 3 := by kernel_rfl
theorem cells_BlockS : Tryz.prog.cellsOf 62 = 1 := by kernel_rfl
set_option maxRecDepth 100000 in
theorem code_of_trod {H : Type} {enc : TypeId × Value → H} {W : World} {base : Nat} {held : Bool} {fuel : Nat} {cs : List Value} {y : DataW H × List MemPlace}
    (h : DataW.trod enc Tryz.prog W base (fun _ => true) held fuel 64 cs = some y) : ∃ d, CodeR W cs d := by
  obtain ⟨xs, m, _, _, hl, hlen, hf⟩ := DataW.trod_struct Tryz.underlying64 h
  rw [cells_Code] at hl
  obtain ⟨c0, c1, c2, rfl⟩ := three hl
  obtain ⟨y0, y1, y2, rfl⟩ := three hlen
  have e0 : DataW.trod enc Tryz.prog W base (fun _ => true) held m 3 [c0] = some y0 := by
    have h0 : DataW.trod enc Tryz.prog W base (fun _ => true) held m 3 (([c0, c1, c2].drop 0).take (Tryz.prog.cellsOf 3)) = [y0, y1, y2][0]? := hf 0 _ rfl
    rw [cells_int] at h0
    exact h0
  have e1 : DataW.trod enc Tryz.prog W base (fun _ => true) held m 3 [c1] = some y1 := by
    have h0 : DataW.trod enc Tryz.prog W base (fun _ => true) held m 3 (([c0, c1, c2].drop 1).take (Tryz.prog.cellsOf 3)) = [y0, y1, y2][1]? := hf 1 _ rfl
    rw [cells_int] at h0
    exact h0
  have e2 : DataW.trod enc Tryz.prog W base (fun _ => true) held m 62 [c2] = some y2 := by
    have h0 : DataW.trod enc Tryz.prog W base (fun _ => true) held m 62 (([c0, c1, c2].drop 2).take (Tryz.prog.cellsOf 62)) = [y0, y1, y2][2]? := hf 2 _ rfl
    rw [cells_BlockS] at h0
    exact h0
  obtain ⟨params, e0, _⟩ := DataW.trod_int Tryz.underlying3 e0
  simp at e0
  subst e0
  obtain ⟨regs, e1, _⟩ := DataW.trod_int Tryz.underlying3 e1
  simp at e1
  subst e1
  obtain ⟨blocks_a, blocks_c, blocks, e2, blocks_m, blocks_r⟩ := rows_of_trod (R := BlockR) Tryz.underlying62 cells_Block (by decide) (fun n cs y h => block_of_trod h) e2
  simp only [List.cons.injEq, and_true] at e2
  subst e2
  exact ⟨⟨params, regs, blocks⟩, blocks_a, blocks_c, rfl, ⟨blocks_m, blocks_r⟩⟩

set_option maxRecDepth 100000 in
theorem code_of_arg {H : Type} {enc : TypeId × Value → H} {W : World} {base b0 : Nat} {held : Bool} {r : Reach} {v : Value} {d : DataW H} {ps : List MemPlace} (hv : Value.okWide Tryz.prog W r b0 64 v)
    (h : DataW.Trod enc Tryz.prog W base (fun _ => true) held 64 v d ps) : ∃ cs x, v = .agg (List.toArray cs) ∧ CodeR W cs x := by
  obtain ⟨cs, rfl, _⟩ := okWide_struct Tryz.underlying64 hv
  obtain ⟨fuel, hf⟩ := h
  obtain ⟨x, hx⟩ := code_of_trod hf
  exact ⟨cs.toList, x, by simp, hx⟩

theorem cells_Unit : Tryz.prog.cellsOf 24 = 1 := by kernel_rfl
theorem cells_CodeS : Tryz.prog.cellsOf 22 = 1 := by kernel_rfl
set_option maxRecDepth 100000 in
theorem unit_of_trod {H : Type} {enc : TypeId × Value → H} {W : World} {base : Nat} {held : Bool} {fuel : Nat} {cs : List Value} {y : DataW H × List MemPlace}
    (h : DataW.trod enc Tryz.prog W base (fun _ => true) held fuel 24 cs = some y) : ∃ d, UnitR W cs d := by
  obtain ⟨xs, m, _, _, hl, hlen, hf⟩ := DataW.trod_struct Tryz.underlying24 h
  rw [cells_Unit] at hl
  obtain ⟨c0, rfl⟩ := one hl
  obtain ⟨y0, rfl⟩ := one hlen
  have e0 : DataW.trod enc Tryz.prog W base (fun _ => true) held m 22 [c0] = some y0 := by
    have h0 : DataW.trod enc Tryz.prog W base (fun _ => true) held m 22 (([c0].drop 0).take (Tryz.prog.cellsOf 22)) = [y0][0]? := hf 0 _ rfl
    rw [cells_CodeS] at h0
    exact h0
  obtain ⟨codes_a, codes_c, codes, e0, codes_m, codes_r⟩ := rows_of_trod (R := CodeR) Tryz.underlying22 cells_Code (by decide) (fun n cs y h => code_of_trod h) e0
  simp only [List.cons.injEq, and_true] at e0
  subst e0
  exact ⟨⟨codes⟩, codes_a, codes_c, rfl, ⟨codes_m, codes_r⟩⟩

set_option maxRecDepth 100000 in
theorem unit_of_arg {H : Type} {enc : TypeId × Value → H} {W : World} {base b0 : Nat} {held : Bool} {r : Reach} {v : Value} {d : DataW H} {ps : List MemPlace} (hv : Value.okWide Tryz.prog W r b0 24 v)
    (h : DataW.Trod enc Tryz.prog W base (fun _ => true) held 24 v d ps) : ∃ cs x, v = .agg (List.toArray cs) ∧ UnitR W cs x := by
  obtain ⟨cs, rfl, _⟩ := okWide_struct Tryz.underlying24 hv
  obtain ⟨fuel, hf⟩ := h
  obtain ⟨x, hx⟩ := unit_of_trod hf
  exact ⟨cs.toList, x, by simp, hx⟩


end Go.Proofs.YtonlidgmfmgcmaaGreat
