/-
  The reference draws programs: an address of a cell (cell).
-/
import Derived.Test.YtccdmgncjlpebaaDoorGz

namespace Go.Proofs.YtccdmgncjlpebaaDoor
open Go.RowKit
set_option linter.unusedVariables false

section
variable {w0 w : World} {br bg : Nat} {a : Option Addr} {len cap : Nat} {bs : List Int} {fa : Option Addr} {fc : Nat} {fns : List FnD} {va : Option Addr} {vc : Nat} {vars : List ByteArray} {next left next' left' : Int}
variable {z : List Value} {ty : TypeId} {u u' : Nat} {wr w' : World}
/-- Behind a call that draws with the generator. -/
theorem BSt.step2 (h : BSt w0 w br bg a len cap bs fa fc fns va vc vars next left z ty u wr) (ht : Turn2 br bg wr w') (hg : GSt w0 br bg a len cap bs fa fc fns u' va vc vars next' left' w') : BSt w0 w br bg a len cap bs fa fc fns va vc vars next' left' z ty u' w' :=
  ⟨hg, h.t.trans ht, h.lt, (Turned.block (S := fun k => k = br ∨ k = bg ∨ wr.heap.size ≤ k) ht _ h.size (by have := h.lt; have := h.size; omega)).trans h.rrow, ht.list strP_stays h.vlow (fun k h => ⟨h.1, h.2.1⟩), ht.list (fnP_stays 20) h.flow (fun k h => ⟨h.1, h.2.1⟩)⟩
theorem IntsRd.blockC {w w' : World} {g n : Nat} {xs : List Int} (h : IntsRd w (some ⟨g, 0, none⟩) n xs) (hb : w'.heap[g]? = w.heap[g]?) : IntsRd w' (some ⟨g, 0, none⟩) n xs := by
  refine ⟨h.length, ?_⟩
  rcases h.row with h0 | ⟨b, off, he, h1⟩
  · exact .inl h0
  · cases he
    exact .inr ⟨g, 0, rfl, fun i v hv => (World.cell?_of_block hb).trans (h1 i v hv)⟩
theorem Turn2.block {b : Nat} (h : Turn2 br bg w w') (hb : b < w.heap.size) (h1 : b ≠ br) (h2 : b ≠ bg) : w'.heap[b]? = w.heap[b]? :=
  Turned.block (S := fun k => k = br ∨ k = bg ∨ w.heap.size ≤ k) h _ hb (by omega)
theorem leafK (op n : Int) (hop : -9223372036854775808 ≤ op ∧ op ≤ 9223372036854775807) (d : Nat) {S : Nat → Prop} {w : World} : exprK (d + 1) S w [.int .i64 op, .int .i64 n, .string ⟨#[]⟩, .slice none 0 0] (.mk op n ⟨#[]⟩ []) :=
  ⟨leafP op n ⟨#[]⟩ hop d, by show (decide (maxLen < (⟨#[]⟩ : ByteArray).size) || List.any [] _) = false; rw [decide_eq_false (Nat.not_lt.2 (show (⟨#[]⟩ : ByteArray).size ≤ maxLen from Nat.zero_le _))]; rfl⟩

set_option maxRecDepth 100000 in
set_option maxHeartbeats 8000000 in
theorem gcell_any (hlen : len ≤ 2000) (u : Nat) (w : World) (h : GSt w0 br bg a len cap bs fa fc fns u va vc vars next left w) (hu : u + 310 ≤ 990000) :
    Calls Tryd.prog 66 #[.pointer (some ⟨bg, 0, none⟩)] w fun e w' => ∃ cs x, e = .returned (.agg (List.toArray cs)) ∧ exprK 9 (fun k => w.heap.size ≤ k) w' cs x ∧ GSt w0 br bg a len cap bs fa fc fns (u + 310) va vc vars next left w' ∧ Turn2 br bg w w' ∧ cellF bs fns vars (posOf w br) = (x, posOf w' br) := by
  have HU := Lib.hid hu
  have HPW0 := Lib.hid (show posOf (w.alloc (.cells #[.int .i64 0, .int .i64 0, .string ⟨#[]⟩, .slice none 0 0] 54)) br = posOf w br from posOf_below ((Below.refl _ _).alloc (Nat.le_refl _) _) h.lts.1)
  have HLT := Lib.hid h.lts
  have HB := Lib.hid (BSt.start [.int .i64 0, .int .i64 0, .string ⟨#[]⟩, .slice none 0 0] 54 h)
  clear h hu
  go_enter Tryd.func66, Tryd.ntmps66
  go_upto_region 1 with fail
  change Hid (BSt w0 w br bg a len cap bs fa fc fns va vc vars next left [.int .i64 0, .int .i64 0, .string ⟨#[]⟩, .slice none 0 0] 54 u (w.alloc (.cells #[.int .i64 0, .int .i64 0, .string ⟨#[]⟩, .slice none 0 0] 54))) at HB
  generalize w.alloc (.cells #[.int .i64 0, .int .i64 0, .string ⟨#[]⟩, .slice none 0 0] 54) = wr at HB HPW0 ⊢
  have HL := Lib.hid (show ∀ W, BSt w0 w br bg a len cap bs fa fc fns va vc vars next left [.int .i64 0, .int .i64 0, .string ⟨#[]⟩, .slice none 0 0] 54 u W → Calls Tryd.prog 53 #[.pointer (some ⟨bg, 0, none⟩), .int .i64 2] W fun e W' => ∃ (y : ExprD) (ya : Option Addr) (yc : Nat), e = .returned (.agg (List.toArray [.int .i64 y.op, .int .i64 y.n, .string y.name, .slice ya y.kids.length yc])) ∧ Hid (BSt w0 w br bg a len cap bs fa fc fns va vc vars next left [.int .i64 0, .int .i64 0, .string ⟨#[]⟩, .slice none 0 0] 54 (u + 300) W' ∧ exprK 8 (fun b => W.heap.size ≤ b) W' [.int .i64 y.op, .int .i64 y.n, .string y.name, .slice ya y.kids.length yc] y ∧ Turn2 br bg W W' ∧ gexprF bs fns vars 2 (posOf W br) = (y, posOf W' br)) from fun W hW => by
    refine (gexpr_any hlen 2 (by omega) u W hW.g (by have := HU.out; omega)).mono ?_
    rintro e W' ⟨cs, y, rfl, hy, hg, ht, hF⟩
    obtain ⟨ya, yc, rfl⟩ := exprP_form hy.1
    exact ⟨y, ya, yc, rfl, Lib.hid ⟨hW.step2 ht hg, hy, ht, hF⟩⟩)
  have HA := Lib.hid (show ∀ W, Below (wr.alloc (.cells #[.int .i64 16, .int .i64 16, .int .i64 16, .int .i64 8, .int .i64 17, .int .i64 0] 3)).heap.size (wr.alloc (.cells #[.int .i64 16, .int .i64 16, .int .i64 16, .int .i64 8, .int .i64 17, .int .i64 0] 3)) W → Calls Tryd.prog 53 #[.pointer (some ⟨bg, 0, none⟩), .int .i64 2] W fun e W' => ∃ (y : ExprD) (ya : Option Addr) (yc : Nat), e = .returned (.agg (List.toArray [.int .i64 y.op, .int .i64 y.n, .string y.name, .slice ya y.kids.length yc])) ∧ Hid (BSt w0 w br bg a len cap bs fa fc fns va vc vars next left [.int .i64 0, .int .i64 0, .string ⟨#[]⟩, .slice none 0 0] 54 (u + 300) W' ∧ exprK 8 (fun b => w.heap.size < b) W' [.int .i64 y.op, .int .i64 y.n, .string y.name, .slice ya y.kids.length yc] y ∧ IntsRd W' (some ⟨wr.heap.size, 0, none⟩) 6 [16, 16, 16, 8, 17, 0] ∧ gexprF bs fns vars 2 (posOf wr br) = (y, posOf W' br)) from fun W hW => by
    refine (HL.out W ((HB.out.alloc _).later hW)).mono ?_
    rintro e W' ⟨y, ya, yc, rfl, hx⟩
    have hsz := hW.size
    rw [World.size_alloc] at hsz
    have hws := HB.out.size
    have hwl := HB.out.lt
    exact ⟨y, ya, yc, rfl, Lib.hid ⟨hx.out.1, (exprK_stays 8).mono (fun b _ h => by omega) hx.out.2.1, ((litI wr [16, 16, 16, 8, 17, 0]).later hW).blockC (hx.out.2.2.1.block (by omega) (by omega) (by omega)), by rw [← hx.out.2.2.2, posOf_below hW (by have := HB.out.g.lts.1; rw [World.size_alloc]; omega), posOf_below ((Below.refl _ _).alloc (Nat.le_refl _) _) HB.out.g.lts.1]⟩⟩)
  have HV := Lib.hid (show ∀ W, Below wr.heap.size wr W → Calls Tryd.prog 53 #[.pointer (some ⟨bg, 0, none⟩), .int .i64 2] W fun e W' => ∃ (y : ExprD) (ya : Option Addr) (yc : Nat), e = .returned (.agg (List.toArray [.int .i64 y.op, .int .i64 y.n, .string y.name, .slice ya y.kids.length yc])) ∧ Hid (BSt w0 w br bg a len cap bs fa fc fns va vc vars next left [.int .i64 0, .int .i64 0, .string ⟨#[]⟩, .slice none 0 0] 54 (u + 300) W' ∧ exprK 8 (fun b => w.heap.size < b) W' [.int .i64 y.op, .int .i64 y.n, .string y.name, .slice ya y.kids.length yc] y ∧ True ∧ gexprF bs fns vars 2 (posOf wr br) = (y, posOf W' br)) from fun W hW => by
    refine (HL.out W (HB.out.later hW)).mono ?_
    rintro e W' ⟨y, ya, yc, rfl, hx⟩
    have hsz := hW.size
    have hws := HB.out.size
    exact ⟨y, ya, yc, rfl, Lib.hid ⟨hx.out.1, (exprK_stays 8).mono (fun b _ h => by omega) hx.out.2.1, trivial, by rw [← hx.out.2.2.2, posOf_below hW HB.out.g.lts.1]⟩⟩)
  have HA0 := Lib.hid (fun nq => HA.out ((wr.alloc (.cells #[.int .i64 16, .int .i64 16, .int .i64 16, .int .i64 8, .int .i64 17, .int .i64 0] 3)).drewN nq) (below_drewN (Below.refl _ _) nq))
  have HA2 := Lib.hid (fun nq nr => HA.out (((wr.drewN nq).alloc (.cells #[.int .i64 16, .int .i64 16, .int .i64 16, .int .i64 8, .int .i64 17, .int .i64 0] 3)).drewN nr) ⟨rfl, rfl, rfl, Nat.le_refl _, fun _ _ => rfl⟩)
  have HV0 := Lib.hid (fun nq => HV.out (wr.drewN nq) (below_drewN (Below.refl _ _) nq))
  have HN := Lib.hid (show ∀ (W : World) (g : Nat) (cs : List Value) (y : ExprD), BSt w0 w br bg a len cap bs fa fc fns va vc vars next left [.int .i64 0, .int .i64 0, .string ⟨#[]⟩, .slice none 0 0] 54 (u + 300) W → exprK 8 (fun b => w.heap.size < b) W cs y → IntsRd W (some ⟨g, 0, none⟩) 6 [16, 16, 16, 8, 17, 0] → g ≠ br → Calls Tryd.prog 28 #[.pointer (some ⟨br, 0, none⟩), .slice (some ⟨g, 0, none⟩) 6 6] W fun e W' => ∃ v : Int, e = .returned (.int .i64 v) ∧ (0 ≤ v ∧ v ≤ 17) ∧ Hid (BSt w0 w br bg a len cap bs fa fc fns va vc vars next left [.int .i64 0, .int .i64 0, .string ⟨#[]⟩, .slice none 0 0] 54 (u + 301) W' ∧ exprK 8 (fun b => w.heap.size < b) W' cs y ∧ ∀ q, posOf W br = q → numF bs [16, 16, 16, 8, 17, 0] q = v ∧ posOf W' br = q + 1) from fun W g cs y hW hy hi hg => by
    obtain ⟨p, hp, hrd⟩ := hW.g.rd
    refine (num_fun w0 _ br a len cap bs p g 6 6 [16, 16, 16, 8, 17, 0] hrd hi hg (by omega) hlen (by have := HU.out; omega)).mono ?_
    rintro e W' ⟨v, hv, rfl, hrd', hg', hFv⟩
    have hl := hW.lt
    refine ⟨v, rfl, ?_, Lib.hid ⟨hW.step (u' := u + 301) (TurnR.grown hg') hrd' (by omega) (by omega), (exprK_stays 8).turned (TurnR.grown hg') (fun k h1 h2 h3 => by omega) hy, fun q hq => by rw [← hq, hrd.pos, hrd'.pos]; exact ⟨hFv, rfl⟩⟩⟩
    simp only [List.mem_cons, List.not_mem_nil, or_false] at hv
    omega)
  have HS := Lib.hid (fun (u9 : Nat) (W : World) (v0 v1 v2 v3 : Value) (h : BSt w0 w br bg a len cap bs fa fc fns va vc vars next left [.int .i64 0, .int .i64 0, .string ⟨#[]⟩, .slice none 0 0] 54 u9 W) => (show ((((W.setCell ⟨w.heap.size, 0, none⟩ v0).setCell ⟨w.heap.size, 1, none⟩ v1).setCell ⟨w.heap.size, 2, none⟩ v2).setCell ⟨w.heap.size, 3, none⟩ v3).cell? ⟨bg, 0, none⟩ = some (.pointer (some ⟨br, 0, none⟩)) from by
    rw [← setCells4]
    have hl := h.lt
    have hs := h.size
    have hlt := h.g.lts
    exact (World.cell?_of_block ((turned_setCells (g := w.heap.size) [v0, v1, v2, v3] W 0).block bg (by omega) (by omega))).trans h.g.c0))
  go_region_held3 (fun W => W.cell? ⟨bg, 0, none⟩ = some (.pointer (some ⟨br, 0, none⟩))) (first | exact GSt.c0 (BSt.g (by repeat (first | exact HB.out | exact hx8.out.1 | exact hx10.out.1 | apply BSt.alloc | apply BSt.drewN | apply BSt.drew))) | exact HS.out _ _ _ _ _ _ (hx10.out.1.alloc _)) (first | (go_at_call 53; (first | refine (HV0.out _).mono ?_ | refine (HA0.out _).mono ?_ | refine (HA2.out _ _).mono ?_); rintro e w8 ⟨y, ya, yc, rfl, hx8⟩) | (go_at_call 28; refine (HN.out _ _ [.int .i64 y.op, .int .i64 y.n, .string y.name, .slice ya y.kids.length yc] y (by repeat (first | exact HB.out | exact hx8.out.1 | exact hx10.out.1 | apply BSt.alloc | apply BSt.drewN | apply BSt.drew)) ((exprK_stays 8).below (by repeat (first | exact Below.refl _ _ | apply later_drew | apply later_drewN | apply later_alloc)) hx8.out.2.1) (by first | exact IntsRd.later hx8.out.2.2.1 (by repeat (first | exact Below.refl _ _ | apply later_drew | apply later_drewN | apply later_alloc)) | exact IntsRd.later (litI _ [16, 16, 16, 8, 17, 0]) (by repeat (first | exact Below.refl _ _ | apply later_drew | apply later_drewN | apply later_alloc))) (by have := HB.out.lt; have := HB.out.size; have := hx8.out.1.size; have := hx8.out.1.lt; first | exact (by omega : wr.heap.size ≠ br) | exact (by omega : w8.heap.size ≠ br))).mono ?_; rintro e w10 ⟨v, rfl, hv, hx10⟩; (have hE10 := hx10.out.2.2 (posOf w8 br) (by first | rfl | exact posOf_below (by repeat (first | exact Below.refl _ _ | apply later_drew | apply later_drewN | apply later_alloc)) hx8.out.1.g.lts.1)); (have hr8 := (hx10.out.1.alloc (.cells #[.int .i64 y.op, .int .i64 y.n, .string y.name, .slice ya y.kids.length yc, .int .i64 1, .int .i64 v, .string ⟨#[]⟩, .slice none 0 0] 54)).rrow); (have z0 := cell_of_row _ _ 0 _ _ _ hr8); (have z1 := cell_of_row _ _ 1 _ _ _ hr8); (have z2 := cell_of_row _ _ 2 _ _ _ hr8); (have z3 := cell_of_row _ _ 3 _ _ _ hr8); (simp only [List.getElem?_toArray, List.getElem?_cons_zero, List.getElem?_cons_succ] at z0 z1 z2 z3); (have g0 := frozen_of_row _ _ 0 _ _ hr8); (have g1 := frozen_of_row _ _ 1 _ _ hr8); (have g2 := frozen_of_row _ _ 2 _ _ hr8); (have g3 := frozen_of_row _ _ 3 _ _ hr8)))
  all_goals
    have HFZ := Lib.hid (show cellF bs fns vars (posOf w br) = (.mk 7 0 ⟨#[]⟩ [y, .mk 1 v ⟨#[]⟩ []], posOf ((w10.alloc (.cells #[.int .i64 y.op, .int .i64 y.n, .string y.name, .slice ya y.kids.length yc, .int .i64 1, .int .i64 v, .string ⟨#[]⟩, .slice none 0 0] 54)).setCells w.heap.size 0 [.int .i64 7, .int .i64 0, .string ⟨#[]⟩, .slice (some ⟨w10.heap.size, 0, none⟩) 2 2]) br) by
      rw [posOf_sets (by have := HLT.out.1; omega), posOf_below ((Below.refl _ _).alloc (Nat.le_refl _) _) hx10.out.1.g.lts.1, cellF, ← HPW0.out, hx8.out.2.2.2, hE10.1, hE10.2])
    have HZ := Lib.hid (show ((w10.alloc (.cells #[.int .i64 y.op, .int .i64 y.n, .string y.name, .slice ya y.kids.length yc, .int .i64 1, .int .i64 v, .string ⟨#[]⟩, .slice none 0 0] 54)).setCells w.heap.size 0 [.int .i64 7, .int .i64 0, .string ⟨#[]⟩, .slice (some ⟨w10.heap.size, 0, none⟩) 2 2]).heap[w.heap.size]? = some (.cells (List.toArray [.int .i64 7, .int .i64 0, .string ⟨#[]⟩, .slice (some ⟨w10.heap.size, 0, none⟩) 2 2]) 54 (0, 0)) ∧ exprK 9 (fun k => w.heap.size ≤ k) ((w10.alloc (.cells #[.int .i64 y.op, .int .i64 y.n, .string y.name, .slice ya y.kids.length yc, .int .i64 1, .int .i64 v, .string ⟨#[]⟩, .slice none 0 0] 54)).setCells w.heap.size 0 [.int .i64 7, .int .i64 0, .string ⟨#[]⟩, .slice (some ⟨w10.heap.size, 0, none⟩) 2 2]) [.int .i64 7, .int .i64 0, .string ⟨#[]⟩, .slice (some ⟨w10.heap.size, 0, none⟩) 2 2] (.mk 7 0 ⟨#[]⟩ [y, .mk 1 v ⟨#[]⟩ []]) ∧ GSt w0 br bg a len cap bs fa fc fns (u + 310) va vc vars next left ((w10.alloc (.cells #[.int .i64 y.op, .int .i64 y.n, .string y.name, .slice ya y.kids.length yc, .int .i64 1, .int .i64 v, .string ⟨#[]⟩, .slice none 0 0] 54)).setCells w.heap.size 0 [.int .i64 7, .int .i64 0, .string ⟨#[]⟩, .slice (some ⟨w10.heap.size, 0, none⟩) 2 2]) ∧ Turn2 br bg w ((w10.alloc (.cells #[.int .i64 y.op, .int .i64 y.n, .string y.name, .slice ya y.kids.length yc, .int .i64 1, .int .i64 v, .string ⟨#[]⟩, .slice none 0 0] 54)).setCells w.heap.size 0 [.int .i64 7, .int .i64 0, .string ⟨#[]⟩, .slice (some ⟨w10.heap.size, 0, none⟩) 2 2]) by
      have hA := hx10.out.1.alloc (.cells #[.int .i64 y.op, .int .i64 y.n, .string y.name, .slice ya y.kids.length yc, .int .i64 1, .int .i64 v, .string ⟨#[]⟩, .slice none 0 0] 54)
      obtain ⟨k1, k2, k3, k4⟩ := hA.put (cs := [.int .i64 7, .int .i64 0, .string ⟨#[]⟩, .slice (some ⟨w10.heap.size, 0, none⟩) 2 2]) rfl
      have hy1 := (exprK_stays 8).below ((Below.refl w10.heap.size w10).alloc (Nat.le_refl _) (.cells #[.int .i64 y.op, .int .i64 y.n, .string y.name, .slice ya y.kids.length yc, .int .i64 1, .int .i64 v, .string ⟨#[]⟩, .slice none 0 0] 54)) hx10.out.2.1
      have htwo := exprK_two (op := 7) (by decide) (S := fun b => w.heap.size < b) (c := 2) (t := 54) (b := w10.heap.size) (heap_alloc_new w10 (.cells #[.int .i64 y.op, .int .i64 y.n, .string y.name, .slice ya y.kids.length yc, .int .i64 1, .int .i64 v, .string ⟨#[]⟩, .slice none 0 0] 54)) (by have := hx10.out.1.size; omega) hy1 (leafK 1 v (by decide) 7)
      exact ⟨k1, (exprK_stays 9).mono (fun k _ h => Nat.le_of_lt h) ((exprK_stays 9).turned k2 (fun k _ h1 h2 => by have h1 : w.heap.size < k := h1; omega) htwo), k3.more (by omega), k4⟩)
    rw [setCells4] at HZ HFZ
    go_wp2
    refine bodyPost_ret (results_cell_row rfl _ _ w.heap.size 54 (List.toArray [.int .i64 7, .int .i64 0, .string ⟨#[]⟩, .slice (some ⟨w10.heap.size, 0, none⟩) 2 2]) (0, 0) _ rfl ?_ Tryd.underlying54 rfl (by kernel_rfl)) rfl ?_
    · exact HZ.out.1
    exact ⟨_, _, rfl, HZ.out.2.1, HZ.out.2.2.1, HZ.out.2.2.2, HFZ.out⟩
end

end Go.Proofs.YtccdmgncjlpebaaDoor
