
/-
  The laws' copy of an expression.
-/
import Derived.Test.YtccfbnhlhjlmgaaDoorEd1
namespace Go.Proofs.YtccfbnhlhjlmgaaDoor
open Go.RowKit

/-- An expression in memory of its own. -/
def ExprO : Nat → OwnRel ExprD
  | 0 => fun _ _ _ _ _ => False
  | d + 1 => fun lo hi w cs x => ∃ a c, cs = [.int .i64 x.op, .int .i64 x.n, .string x.name, .slice a x.kids.length c] ∧ (x.kids.length ≤ maxLen ∧ -9223372036854775808 ≤ x.op ∧ x.op ≤ 9223372036854775807) ∧ SliceOwn 4 29 (ExprO d) lo hi w a x.kids.length c x.kids
theorem exprO_keeps : ∀ d, Keeps (ExprO d)
  | 0 => ⟨fun h => h.elim, fun h => h.elim, fun h => h.elim⟩
  | d + 1 => {
    le := by
      rintro lo hi w c x ⟨a, n, rfl, _, o⟩
      exact o.le (exprO_keeps d)
    wide := by
      rintro lo hi lo' hi' w c x ⟨a, n, rfl, b, o⟩ h1 h2
      exact ⟨a, n, rfl, b, o.wide (exprO_keeps d) h1 h2⟩
    turned := by
      rintro lo hi w w' c x S ⟨a, n, rfl, b, o⟩ ht hS
      exact ⟨a, n, rfl, b, o.turned (exprO_keeps d) ht (fun k h5 h6 => hS k h5 h6)⟩ }
theorem exprO_rd : ∀ d lo hi w cs x, ExprO d lo hi w cs x → ExprAt d w cs x
  | 0, _, _, _, _, _, h => h.elim
  | d + 1, lo, hi, w, c, x, h => by
    obtain ⟨a, n, rfl, b, o⟩ := h
    exact ⟨a, n, rfl, b, o.rd (exprO_rd d)⟩

/-- An expression, at most so deep, is copied. -/
def ToAt (d : Nat) : Prop := ∀ (cs : List Value) (x : ExprD) (w : World), ExprAt d w cs x → szE d x ≤ 1048576 →
    Calls Tryd.prog 42 #[.agg cs.toArray] w fun e w' => ∃ cs', e = .returned (.agg cs'.toArray) ∧ ExprO d w.heap.size w'.heap.size w' cs' x ∧ Below w.heap.size w w'
theorem info_Expr : (Tryd.prog.info? 29).map (fun i => (i.zero, i.size, i.bytes)) = some (some (.agg #[.int .i64 0, .int .i64 0, .string ⟨#[]⟩, .slice none 0 0]), 4, 56) := by kernel_rfl
theorem und_ExprS : Tryd.prog.underlying 27 = some (.slice 29) := by kernel_rfl
set_option maxHeartbeats 2000000 in
theorem toExprS_any (d : Nat) (hd : ToAt d) (a : Option Addr) (len cap : Nat) (xs : List ExprD) (w : World) (hin : SliceRd 4 (ExprAt d) w a len xs) (hs : szS (szE d) xs ≤ 1048576) :
    Calls Tryd.prog 97 #[.slice a len cap] w fun e w' => ∃ a' c', e = .returned (.slice a' len c') ∧ SliceOwn 4 29 (ExprO d) w.heap.size w'.heap.size w' a' len c' xs ∧ Below w.heap.size w w' := by
  have hlen : len ≤ 1048576 := by have := hin.length; unfold szS at hs; omega
  obtain ⟨i0, hi, hz0, hz1, hz2⟩ := info_parts info_Expr
  go_enter Tryd.func97, Tryd.ntmps97
  go_wp2_with (at_make; refine wpList_make_full _ rfl _ _ 27 rfl w.heap.size 29 i0 (.agg #[.int .i64 0, .int .i64 0, .string ⟨#[]⟩, .slice none 0 0]) 4 und_ExprS hi hz0 hz1 _ _ _ _ len rfl rfl rfl rfl (by rw [hz2]; omega) (by unfold maxLen; omega) (Nat.le_refl _) ?_; intro w1 hown hg)
  have hb1 : Below w.heap.size w w1 := (Below.refl _ _).grown hg (Nat.le_refl _) (by simp)
  have hf : SliceFill 4 29 (ExprO d) w.heap.size w1.heap.size w1 len [.int .i64 0, .int .i64 0, .string ⟨#[]⟩, .slice none 0 0] [] := SliceFill.start (by rw [← toList_madeCells _ _ (by decide)]; exact hown) rfl (hown.lt w.heap.size rfl).2
  have HF := Lib.hid hf
  have HS := Lib.hid (And.intro hs (And.intro hin.length (And.intro hin hd)))
  clear hown hg hi hz0 hz1 hz2 hf hs hin hd
  go_wp2
  go_loopw [4] (fun i wr => ∃ k : Nat, k ≤ len ∧ i = .int .i64 k ∧ Below w.heap.size w wr ∧ Hid (SliceFill 4 29 (ExprO d) w.heap.size wr.heap.size wr len [.int .i64 0, .int .i64 0, .string ⟨#[]⟩, .slice none 0 0] (xs.take k))) (fun i _ => len - (intOf i).toNat)
  case atStart => exact ⟨0, Nat.zero_le _, rfl, hb1, Lib.hid (by simpa using HF.out)⟩
  case round =>
    obtain ⟨k, hk, rfl, hbr, HD⟩ := hrel
    clear HF hb1
    by_cases hlt : k < len
    · obtain ⟨b, off, x, cs1, rfl, hx, hR, k1, k2, rfl, c0, c1, c2, c3⟩ := kid_place (HS.out.2.2.1.later (exprAt_lasts d) hbr) hlt
      have hz : szE d x ≤ 1048576 := Nat.le_trans (szS_mem (List.mem_of_getElem? hx)) HS.out.1
      have HX := Lib.hid (And.intro hx (And.intro hR hz))
      clear hx hR hz
      go_wp2_with fail
      refine (HS.out.2.2.2 _ x wr HX.out.2.1 HX.out.2.2).mono ?_
      rintro e w2 ⟨cs', rfl, hO, hb2⟩
      have hcs : ∃ a9 c9, cs' = [.int .i64 x.op, .int .i64 x.n, .string x.name, .slice a9 x.kids.length c9] := by
        cases d with
        | zero => exact hO.elim
        | succ d => obtain ⟨a9, c9, h, _⟩ := hO; exact ⟨a9, c9, h⟩
      obtain ⟨a9, c9, rfl⟩ := hcs
      have hfill := HD.out
      have hkl : (xs.take k).length = k := by have := HS.out.2.1; rw [List.length_take]; omega
      have hz0 : w2.cell? ⟨w.heap.size, k * 4, none⟩ = some _ := (hfill.there hb2 hkl hlt (j := 0) rfl).1
      have hy0 : w2.frozen? ⟨w.heap.size, k * 4, none⟩ = false := (hfill.there hb2 hkl hlt (j := 0) rfl).2
      have hz1 : w2.cell? ⟨w.heap.size, k * 4 + 1, none⟩ = some _ := (hfill.there hb2 hkl hlt (j := 1) rfl).1
      have hy1 : w2.frozen? ⟨w.heap.size, k * 4 + 1, none⟩ = false := (hfill.there hb2 hkl hlt (j := 1) rfl).2
      have hz2 : w2.cell? ⟨w.heap.size, k * 4 + 2, none⟩ = some _ := (hfill.there hb2 hkl hlt (j := 2) rfl).1
      have hy2 : w2.frozen? ⟨w.heap.size, k * 4 + 2, none⟩ = false := (hfill.there hb2 hkl hlt (j := 2) rfl).2
      have hz3 : w2.cell? ⟨w.heap.size, k * 4 + 3, none⟩ = some _ := (hfill.there hb2 hkl hlt (j := 3) rfl).1
      have hy3 : w2.frozen? ⟨w.heap.size, k * 4 + 3, none⟩ = false := (hfill.there hb2 hkl hlt (j := 3) rfl).2
      have hput := hfill.put (exprO_keeps d) (by omega) hb2 (Nat.le_refl _) hO rfl
      rw [hkl] at hput
      simp only [World.setCells, Nat.add_assoc, Nat.reduceAdd] at hput
      have HP := Lib.hid hput
      have hbr2 : Below w.heap.size w w2 := hbr.trans (hb2.mono hbr.size)
      clear hput hfill hkl hO hb2 hbr HD
      go_wp2
      go_roundw
      case rel => exact ⟨k + 1, by omega, by go_num, hbr2.trans (HP.out.2.below hbr2.size (fun j hj => by omega)), Lib.hid (by rw [take_succ_of HX.out.1]; simp only [World.size_setCell]; exact HP.out.1)⟩
      case measure => simp [intOf]; omega
    · obtain rfl : k = len := by omega
      go_wp2
      go_ret
      have hd := HD.out
      rw [List.take_of_length_le (by have := HS.out.2.1; omega)] at hd
      exact ⟨_, _, rfl, hd.done HS.out.2.1, hbr⟩

set_option maxHeartbeats 2000000 in
theorem toExpr_any : ∀ d, ToAt d := by
  intro d
  induction d with
  | zero => exact fun _ _ _ h => h.elim
  | succ d ih =>
  intro cs x w hR hs
  obtain ⟨ka, kc, rfl, hbd, hks⟩ := hR
  have hs_k : szS (szE d) x.kids ≤ 1048576 := by
    have : szE (d + 1) x = x.name.size + szS (szE d) x.kids := rfl
    omega
  have HTO := Lib.hid (fun W h => toExprS_any d ih ka x.kids.length kc x.kids W h hs_k)
  have HBD := Lib.hid hbd
  clear hs hs_k ih hbd
  go_enter Tryd.func42, Tryd.ntmps42
  go_wp2_with fail
  have HH0 := three_blocks w (.cells #[.int .i64 x.op, .int .i64 x.n, .string x.name, .slice ka x.kids.length kc] 60) (.cells #[.int .i64 0, .int .i64 0, .string ⟨#[]⟩, .slice none 0 0] 29) (.cells #[.int .i64 x.op, .int .i64 x.n, .string x.name, .slice none 0 0] 29)
  generalize (((w.alloc (.cells #[.int .i64 x.op, .int .i64 x.n, .string x.name, .slice ka x.kids.length kc] 60)).alloc (.cells #[.int .i64 0, .int .i64 0, .string ⟨#[]⟩, .slice none 0 0] 29)).alloc (.cells #[.int .i64 x.op, .int .i64 x.n, .string x.name, .slice none 0 0] 29)) = W0 at HH0 ⊢
  obtain ⟨ht0, hn0, hb0⟩ := HH0
  have HN0 := Lib.hid hn0
  refine (HTO.out W0 (hks.later (exprAt_lasts d) hb0)).mono ?_
  rintro e w1 ⟨k_a9, k_c9, rfl, k_o, hx1⟩
  have hq1 := ht0.later hx1 (by omega)
  have hm1 : w.heap.size + 3 ≤ w1.heap.size := by have := hx1.size; omega
  have hd1 : Below w.heap.size w w1 := hb0.trans (hx1.mono (by omega))
  have hT1 : Turned (fun k => k = w.heap.size + 1 ∨ k = w.heap.size + 2) W0 w1 := turned_of_below hx1 (fun k h1 h2 => by omega)
  have hU0_0 : w1.cell? ⟨w.heap.size + 2, 0, none⟩ = some (.int .i64 x.op) := cell_of_row w1 (w.heap.size + 2) 0 _ _ _ hq1.u
  have hF0_0 := (frozen_of_row w1 (w.heap.size + 2) 0 _ _ hq1.u)
  have hZ0_0 : w1.cell? ⟨w.heap.size + 1, 0, none⟩ = some (.int .i64 0) := cell_of_row w1 (w.heap.size + 1) 0 _ _ _ hq1.z
  have hG0_0 := (frozen_of_row w1 (w.heap.size + 1) 0 _ _ hq1.z)
  have hU0_1 : w1.cell? ⟨w.heap.size + 2, 1, none⟩ = some (.int .i64 x.n) := cell_of_row w1 (w.heap.size + 2) 1 _ _ _ hq1.u
  have hF0_1 := (frozen_of_row w1 (w.heap.size + 2) 1 _ _ hq1.u)
  have hZ0_1 : w1.cell? ⟨w.heap.size + 1, 1, none⟩ = some (.int .i64 0) := cell_of_row w1 (w.heap.size + 1) 1 _ _ _ hq1.z
  have hG0_1 := (frozen_of_row w1 (w.heap.size + 1) 1 _ _ hq1.z)
  have hU0_2 : w1.cell? ⟨w.heap.size + 2, 2, none⟩ = some (.string x.name) := cell_of_row w1 (w.heap.size + 2) 2 _ _ _ hq1.u
  have hF0_2 := (frozen_of_row w1 (w.heap.size + 2) 2 _ _ hq1.u)
  have hZ0_2 : w1.cell? ⟨w.heap.size + 1, 2, none⟩ = some (.string ⟨#[]⟩) := cell_of_row w1 (w.heap.size + 1) 2 _ _ _ hq1.z
  have hG0_2 := (frozen_of_row w1 (w.heap.size + 1) 2 _ _ hq1.z)
  have hU0_3 : w1.cell? ⟨w.heap.size + 2, 3, none⟩ = some (.slice none 0 0) := cell_of_row w1 (w.heap.size + 2) 3 _ _ _ hq1.u
  have hF0_3 := (frozen_of_row w1 (w.heap.size + 2) 3 _ _ hq1.u)
  have hZ0_3 : w1.cell? ⟨w.heap.size + 1, 3, none⟩ = some (.slice none 0 0) := cell_of_row w1 (w.heap.size + 1) 3 _ _ _ hq1.z
  have hG0_3 := (frozen_of_row w1 (w.heap.size + 1) 3 _ _ hq1.z)
  have HH1 := Three.put [.slice k_a9 x.kids.length k_c9] 3 (A := [.int .i64 x.op, .int .i64 x.n, .string x.name]) (B := [.slice none 0 0]) (C := []) hq1 rfl rfl
  have HS1 := Lib.hid (And.intro HH1 (And.intro (heap_setCells_size (g := w.heap.size + 2) [.slice k_a9 x.kids.length k_c9] w1 3) (turned_setCells (g := w.heap.size + 2) [.slice k_a9 x.kids.length k_c9] w1 3)))
  have HO1 := Lib.hid (And.intro k_o (And.intro hT1 (And.intro hm1 hd1)))
  clear HH1 hq1 k_o hT1 hx1 hm1 hd1 hb0 ht0 hn0
  go_wp2
  have hF : ((w1.setCells (w.heap.size + 2) 3 [.slice k_a9 x.kids.length k_c9]).setCells (w.heap.size + 1) 0 [.int .i64 x.op, .int .i64 x.n, .string x.name, .slice k_a9 x.kids.length k_c9]).heap[w.heap.size + 1]? = some (.cells [.int .i64 x.op, .int .i64 x.n, .string x.name, .slice k_a9 x.kids.length k_c9].toArray 29 (0, 0)) := heap_setCells_mid (A := []) (B := [.int .i64 0, .int .i64 0, .string ⟨#[]⟩, .slice none 0 0]) (C := []) rfl rfl HS1.out.1.z
  have hTm : Turned (fun k => k = w.heap.size + 1 ∨ k = w.heap.size + 2) w1 ((w1.setCells (w.heap.size + 2) 3 [.slice k_a9 x.kids.length k_c9]).setCells (w.heap.size + 1) 0 [.int .i64 x.op, .int .i64 x.n, .string x.name, .slice k_a9 x.kids.length k_c9]) := (HS1.out.2.2.mono (fun k hk => .inr hk)).trans ((turned_setCells _ _ _).mono (fun k hk => .inl hk))
  have hsz : ((w1.setCells (w.heap.size + 2) 3 [.slice k_a9 x.kids.length k_c9]).setCells (w.heap.size + 1) 0 [.int .i64 x.op, .int .i64 x.n, .string x.name, .slice k_a9 x.kids.length k_c9]).heap.size = w1.heap.size := (heap_setCells_size _ _ _).trans (heap_setCells_size _ _ _)
  have ho0 := HO1.out.1.turned (exprO_keeps d) hTm (fun k h1 h2 h3 => by have := HN0.out; omega)
  have hbF : Below w.heap.size w ((w1.setCells (w.heap.size + 2) 3 [.slice k_a9 x.kids.length k_c9]).setCells (w.heap.size + 1) 0 [.int .i64 x.op, .int .i64 x.n, .string x.name, .slice k_a9 x.kids.length k_c9]) := HO1.out.2.2.2.trans (hTm.below (by have := HO1.out.2.2.1; omega) (fun k hk => by omega))
  have hres : ExprO (d + 1) w.heap.size ((w1.setCells (w.heap.size + 2) 3 [.slice k_a9 x.kids.length k_c9]).setCells (w.heap.size + 1) 0 [.int .i64 x.op, .int .i64 x.n, .string x.name, .slice k_a9 x.kids.length k_c9]).heap.size ((w1.setCells (w.heap.size + 2) 3 [.slice k_a9 x.kids.length k_c9]).setCells (w.heap.size + 1) 0 [.int .i64 x.op, .int .i64 x.n, .string x.name, .slice k_a9 x.kids.length k_c9]) [.int .i64 x.op, .int .i64 x.n, .string x.name, .slice k_a9 x.kids.length k_c9] x := by
    rw [hsz]
    exact ⟨k_a9, k_c9, rfl, HBD.out, ho0.wide (exprO_keeps d) (by have := HN0.out; omega) (Nat.le_refl _)⟩
  refine bodyPost_ret (results_cell_row rfl _ _ (w.heap.size + 1) 29 #[.int .i64 x.op, .int .i64 x.n, .string x.name, .slice k_a9 x.kids.length k_c9] (0, 0) _ rfl ?_ Tryd.underlying29 rfl (by kernel_rfl)) rfl ⟨_, rfl, hres, hbF⟩
  exact hF

end Go.Proofs.YtccfbnhlhjlmgaaDoor
