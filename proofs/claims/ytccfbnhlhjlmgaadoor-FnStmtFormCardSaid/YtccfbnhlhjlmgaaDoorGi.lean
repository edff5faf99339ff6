/-
  The reference draws programs and statements for the laws (DrawStmtCount, DrawStmtValid), from what l3Bent gives.
-/
import Derived.Test.YtccfbnhlhjlmgaaDoorDr5
import Derived.StillTailTactics
import Derived.Deep.QuietTactic
import Derived.BigQuiet
import Derived.Deep.RegionHeld3

namespace Go.Proofs.YtccfbnhlhjlmgaaDoor
open Go.RowKit
set_option linter.unusedVariables false

/-- What l3Bent gives. -/
def BentC : Prop := ∀ (w0 w : World) (br : Nat) (a : Option Addr) (len cap : Nat) (bs : List Int) (p : Nat), len ≤ 2000 → Rd w0 w br a len cap bs p → p ≤ 100 →
  Calls Tryd.prog 70 #[.pointer (some ⟨br, 0, none⟩)] w fun e w' => ∃ (pa : Option Addr) (pc : Nat) (ps : List FnD), e = .returned (.agg (List.toArray [.slice pa ps.length pc])) ∧ ps.length ≤ 4 ∧ ListK 3 (FnP 20) (fun k => w.heap.size ≤ k) w' pa ps ∧ TurnR br w w'

set_option maxRecDepth 100000 in
set_option maxHeartbeats 4000000 in
theorem drawStmtCount_any (hB : BentC) (w : World) (a : Option Addr) (len cap : Nat) (bs : List Int) (hin : BytesRd w a len bs) (hcap : len ≤ cap) :
    Calls Tryd.prog 32 #[.slice a len cap] w fun e w' => ∃ (pa : Option Addr) (pc : Nat) (ps : List FnD), e = .returned (.agg (List.toArray [.slice pa ps.length pc])) ∧ ps.length ≤ 4 ∧ ListK 3 (FnP 20) (fun k => w.heap.size < k) w' pa ps ∧ Below w.heap.size w w' := by
  have hb0 : Below w.heap.size w (w.alloc (.cells #[.slice none 0 0] 34)) := (Below.refl _ _).alloc (Nat.le_refl _) _
  have HB := Lib.hid (And.intro hb0 (And.intro (heap_alloc_new w (.cells #[.slice none 0 0] 34)) (And.intro (hin.later hb0) (World.size_alloc w (.cells #[.slice none 0 0] 34)))))
  have HBC := Lib.hid hB
  clear hb0 hin hB
  go_enter Tryd.func32, Tryd.ntmps32
  go_upto_region 1 with fail
  obtain ⟨rb, hrb⟩ : ∃ b, b = w.heap.size := ⟨_, rfl⟩
  generalize w.alloc (.cells #[.slice none 0 0] 34) = W1 at HB ⊢
  have H0 := Lib.hid (show Below w.heap.size w W1 ∧ rb = w.heap.size ∧ W1.heap.size = w.heap.size + 1 ∧ W1.heap[rb]? = some (.cells #[.slice none 0 0] 34 (0, 0)) from ⟨HB.out.1, hrb, HB.out.2.2.2, by rw [hrb]; exact HB.out.2.1⟩)
  rw [← hrb] at HB ⊢
  clear hrb
  go_wp2_with fail
  refine (open_any W1 a len cap bs HB.out.2.2.1 hcap).mono ?_
  rintro e w2 ⟨a1, len1, cap1, bs1, rfl, hrd2, hlen1, hsz2⟩
  have HRD := Lib.hid (And.intro hrd2 hlen1)
  clear hrd2 hlen1 hcap hsz2
  go_wp2_with fail
  refine (HBC.out W1 w2 W1.heap.size a1 len1 cap1 bs1 0 HRD.out.2 HRD.out.1 (by omega)).mono ?_
  rintro e w3 ⟨pa, pc, ps, rfl, hl, hx, ht⟩
  have hb2 : Below w.heap.size w w2 := H0.out.1.trans (HRD.out.1.below.mono H0.out.1.size)
  have hb3 : Below w.heap.size w w3 := hb2.trans (Turned.below (S := fun k => k = W1.heap.size ∨ w2.heap.size ≤ k) ht hb2.size (fun k hk => by have := H0.out; have := hb2.size; omega))
  have hlt2 : rb < w2.heap.size := by have := HRD.out.1.below.size; have := H0.out; omega
  have hrow := (ht.block (b := rb) hlt2 (by have := H0.out; omega)).trans ((HRD.out.1.below.block rb (by have := H0.out; omega)).trans H0.out.2.2.2)
  have k0 := cell_of_row _ _ 0 _ _ _ hrow
  have z0 := frozen_of_row _ _ 0 _ _ hrow
  simp only [List.getElem?_toArray, List.getElem?_cons_zero] at k0
  have HE := Lib.hid (show (w3.setCell ⟨rb, 0, none⟩ (.slice pa ps.length pc)).heap[rb]? = some (.cells (List.toArray [.slice pa ps.length pc]) 34 (0, 0)) ∧ ps.length ≤ 4 ∧ ListK 3 (FnP 20) (fun k => w.heap.size < k) (w3.setCell ⟨rb, 0, none⟩ (.slice pa ps.length pc)) pa ps ∧ Below w.heap.size w (w3.setCell ⟨rb, 0, none⟩ (.slice pa ps.length pc)) from by
    have hts := turned_store w3 rb 0 (.slice pa ps.length pc)
    refine ⟨(heap_setCell_same w3 rb 0 _ _ _ hrow).trans rfl, hl, (hx.turned (fnP_stays 20) hts (fun k _ h1 h2 => by have h1 : w2.heap.size ≤ k := h1; have h2 : k = rb := h2; omega)).mono (fnP_stays 20) (fun k _ h => by have h : w2.heap.size ≤ k := h; have := H0.out; show w.heap.size < k; omega), hb3.trans (hts.below (B := w.heap.size) hb3.size (fun k hk => by have := H0.out; omega))⟩)
  clear hl hx ht hb2 hb3 hlt2 hrow
  go_wp2
  refine bodyPost_ret (results_cell_row rfl _ _ rb 34 (List.toArray [.slice pa ps.length pc]) (0, 0) _ rfl ?_ Tryd.underlying34 rfl (by kernel_rfl)) rfl ?_
  · exact HE.out.1
  exact ⟨pa, pc, ps, rfl, HE.out.2⟩

theorem setCells5v (w : World) (g : Nat) (v0 v1 v2 v3 v4 : Value) : w.setCells g 0 [v0, v1, v2, v3, v4] = ((((w.setCell ⟨g, 0, none⟩ v0).setCell ⟨g, 1, none⟩ v1).setCell ⟨g, 2, none⟩ v2).setCell ⟨g, 3, none⟩ v3).setCell ⟨g, 4, none⟩ v4 := rfl
theorem cells_keep {w3 : World} {rb : Nat} {cs : List Value} {q i : Nat} {x : Value} (h : w3.cell? ⟨q, i, none⟩ = some x) (hq : q ≠ rb) : (w3.setCells rb 0 cs).cell? ⟨q, i, none⟩ = some x :=
  (World.cell?_of_block ((turned_setCells (g := rb) cs w3 0).block q (World.block_lt_of_cell? w3 _ h) hq)).trans h
/-- A statement is put into the result's block. -/
theorem stmt_result {w w3 : World} {rb D : Nat} {cs : List Value} {s : StmtD} (hrow : w3.heap[rb]? = some (.cells #[.int .i64 0, .string ⟨#[]⟩, .slice none 0 0, .slice none 0 0, .slice none 0 0] 46 (0, 0))) (hrb : rb = w.heap.size) (hb : Below w.heap.size w w3) (hs : StmtP D (fun k => rb < k) w3 cs s) :
    (w3.setCells rb 0 cs).heap[rb]? = some (.cells cs.toArray 46 (0, 0)) ∧ StmtP D (fun k => w.heap.size < k) (w3.setCells rb 0 cs) cs s ∧ Below w.heap.size w (w3.setCells rb 0 cs) := by
  have ht := turned_setCells (g := rb) cs w3 0
  refine ⟨?_, (stmtP_stays D).mono (fun k _ h => by omega) ((stmtP_stays D).turned ht (fun k _ h1 h2 => by omega) hs), hb.trans (ht.below (B := w.heap.size) hb.size (fun k hk => by omega))⟩
  have := heap_setCells_mid (w := w3) (A := []) (B := [.int .i64 0, .string ⟨#[]⟩, .slice none 0 0, .slice none 0 0, .slice none 0 0]) (C := []) (vs := cs) (o := 0) rfl (by rw [stmtP_len hs]; rfl) (by simpa using hrow)
  simpa using this

set_option maxRecDepth 100000 in
set_option maxHeartbeats 4000000 in
theorem drawStmtValid_any (hB : BentC) (w : World) (a : Option Addr) (len cap : Nat) (bs : List Int) (hin : BytesRd w a len bs) (hcap : len ≤ cap) :
    Calls Tryd.prog 24 #[.slice a len cap] w fun e w' => ∃ (cs : List Value) (s : StmtD), e = .returned (.agg (List.toArray cs)) ∧ StmtP 20 (fun k => w.heap.size < k) w' cs s ∧ Below w.heap.size w w' := by
  have hb0 : Below w.heap.size w (w.alloc (.cells #[.int .i64 0, .string ⟨#[]⟩, .slice none 0 0, .slice none 0 0, .slice none 0 0] 46)) := (Below.refl _ _).alloc (Nat.le_refl _) _
  have HB := Lib.hid (And.intro hb0 (And.intro (heap_alloc_new w (.cells #[.int .i64 0, .string ⟨#[]⟩, .slice none 0 0, .slice none 0 0, .slice none 0 0] 46)) (And.intro (hin.later hb0) (World.size_alloc w (.cells #[.int .i64 0, .string ⟨#[]⟩, .slice none 0 0, .slice none 0 0, .slice none 0 0] 46)))))
  have HBC := Lib.hid hB
  clear hb0 hin hB
  go_enter Tryd.func24, Tryd.ntmps24
  go_upto_region 1 with fail
  obtain ⟨rb, hrb⟩ : ∃ b, b = w.heap.size := ⟨_, rfl⟩
  generalize w.alloc (.cells #[.int .i64 0, .string ⟨#[]⟩, .slice none 0 0, .slice none 0 0, .slice none 0 0] 46) = W1 at HB ⊢
  have H0 := Lib.hid (show Below w.heap.size w W1 ∧ rb = w.heap.size ∧ W1.heap.size = w.heap.size + 1 ∧ W1.heap[rb]? = some (.cells #[.int .i64 0, .string ⟨#[]⟩, .slice none 0 0, .slice none 0 0, .slice none 0 0] 46 (0, 0)) from ⟨HB.out.1, hrb, HB.out.2.2.2, by rw [hrb]; exact HB.out.2.1⟩)
  rw [← hrb] at HB ⊢
  clear hrb
  go_wp2_with fail
  refine (open_any W1 a len cap bs HB.out.2.2.1 hcap).mono ?_
  rintro e w2 ⟨a1, len1, cap1, bs1, rfl, hrd2, hlen1, hsz2⟩
  have HRD := Lib.hid (And.intro hrd2 hlen1)
  clear hrd2 hlen1 hcap hsz2
  go_wp2_with fail
  refine (HBC.out W1 w2 W1.heap.size a1 len1 cap1 bs1 0 HRD.out.2 HRD.out.1 (by omega)).mono ?_
  rintro e w3 ⟨pa, pc, ps, rfl, hl, hx, ht⟩
  have H3 := Lib.hid (show Below w.heap.size w (w3.alloc (.cells #[.slice pa ps.length pc] 34)) ∧ (w3.alloc (.cells #[.slice pa ps.length pc] 34)).heap[rb]? = some (.cells #[.int .i64 0, .string ⟨#[]⟩, .slice none 0 0, .slice none 0 0, .slice none 0 0] 46 (0, 0)) ∧ ListK 3 (FnP 20) (fun k => rb < k) (w3.alloc (.cells #[.slice pa ps.length pc] 34)) pa ps ∧ (w3.alloc (.cells #[.slice pa ps.length pc] 34)).cell? ⟨w3.heap.size, 0, none⟩ = some (.slice pa ps.length pc) ∧ rb = w.heap.size from by
    have hba : Below w3.heap.size w3 (w3.alloc (.cells #[.slice pa ps.length pc] 34)) := (Below.refl _ _).alloc (Nat.le_refl _) _
    have hb2 : Below w.heap.size w w2 := H0.out.1.trans (HRD.out.1.below.mono H0.out.1.size)
    have hb3 : Below w.heap.size w w3 := hb2.trans (Turned.below (S := fun k => k = W1.heap.size ∨ w2.heap.size ≤ k) ht hb2.size (fun k hk => by have := H0.out; have := hb2.size; omega))
    have hlt2 : rb < w2.heap.size := by have := HRD.out.1.below.size; have := H0.out; omega
    have hrow := (ht.block (b := rb) hlt2 (by have := H0.out; omega)).trans ((HRD.out.1.below.block rb (by have := H0.out; omega)).trans H0.out.2.2.2)
    exact ⟨hb3.trans (hba.mono hb3.size), (hba.block rb (Array.getElem?_eq_some_iff.1 hrow).1).trans hrow, (hx.below (fnP_stays 20) hba).mono (fnP_stays 20) (fun k _ h => by have h : w2.heap.size ≤ k := h; show rb < k; omega), cell_of_row _ _ 0 _ _ _ (heap_alloc_new w3 _), H0.out.2.1⟩)
  have HL := Lib.hid hl
  clear hl hx ht
  go_upto_region 2 with fail
  obtain ⟨tb, htb⟩ : ∃ n, n = w3.heap.size := ⟨_, rfl⟩
  generalize w3.alloc (.cells #[.slice pa ps.length pc] 34) = w4 at H3 ⊢
  rw [← htb] at H3 ⊢
  clear htb HB H0 HRD
  have t0 := H3.out.2.2.2.1
  have r0 := cell_of_row _ _ 0 _ _ _ H3.out.2.1
  have r1 := cell_of_row _ _ 1 _ _ _ H3.out.2.1
  have r2 := cell_of_row _ _ 2 _ _ _ H3.out.2.1
  have r3 := cell_of_row _ _ 3 _ _ _ H3.out.2.1
  have r4 := cell_of_row _ _ 4 _ _ _ H3.out.2.1
  have y0 := frozen_of_row _ _ 0 _ _ H3.out.2.1
  have y1 := frozen_of_row _ _ 1 _ _ H3.out.2.1
  have y2 := frozen_of_row _ _ 2 _ _ H3.out.2.1
  have y3 := frozen_of_row _ _ 3 _ _ H3.out.2.1
  have y4 := frozen_of_row _ _ 4 _ _ H3.out.2.1
  simp only [List.getElem?_toArray, List.getElem?_cons_zero, List.getElem?_cons_succ] at r0 r1 r2 r3 r4
  have HZ := Lib.hid (stmt_result (D := 20) (cs := [.int .i64 0, .string ⟨#[]⟩, .slice none 0 0, .slice none 0 0, .slice none 0 0]) (s := .mk 0 ⟨#[]⟩ [] [] []) H3.out.2.1 H3.out.2.2.2.2 H3.out.1 ⟨none, 0, none, 0, none, 0, rfl, ⟨Nat.zero_le _, (by decide : (-9223372036854775808 : Int) ≤ 0), (by decide : (0 : Int) ≤ 9223372036854775807), (by decide : (0 : Nat) ≤ 100), (by decide : (0 : Nat) ≤ 100), (by decide : (0 : Nat) ≤ 100)⟩, ListK.nil _ _ _, ListK.nil _ _ _, ListK.nil _ _ _⟩)
  rw [setCells5v] at HZ
  by_cases hp : ps.length = 0
  · rw [hp] at t0
    go_wp2
    refine bodyPost_ret (results_cell_row rfl _ _ rb 46 (List.toArray [.int .i64 0, .string ⟨#[]⟩, .slice none 0 0, .slice none 0 0, .slice none 0 0]) (0, 0) _ rfl ?_ Tryd.underlying46 rfl (by kernel_rfl)) rfl ?_
    · exact HZ.out.1
    exact ⟨_, _, rfl, HZ.out.2⟩
  have hpn : ((ps.length : Int) == 0) = false := by simp; exact fun e => hp (by rw [e]; rfl)
  have hpi : (0 : Int) < (ps.length : Int) := by omega
  obtain ⟨b, off, f, fa, fc, ba, bc, rfl, hf, hF, -, -, c2⟩ := fn_place H3.out.2.2.1 (show 0 < ps.length by omega)
  simp only [Nat.zero_mul, Nat.add_zero] at c2
  obtain ⟨fa', fc', ba', bc', he, hbd, -, hBd⟩ := hF
  cases he
  by_cases hq : f.body.length = 0
  · rw [hq] at c2
    go_wp2
    refine bodyPost_ret (results_cell_row rfl _ _ rb 46 (List.toArray [.int .i64 0, .string ⟨#[]⟩, .slice none 0 0, .slice none 0 0, .slice none 0 0]) (0, 0) _ rfl ?_ Tryd.underlying46 rfl (by kernel_rfl)) rfl ?_
    · exact HZ.out.1
    exact ⟨_, _, rfl, HZ.out.2⟩
  obtain ⟨j, hj⟩ : ∃ j, f.body.length = j + 1 := ⟨f.body.length - 1, by omega⟩
  have hqm : j ≤ 100 := by have := hbd.2.2; omega
  obtain ⟨b1, off1, s, aa, ac, sa, sc, ea, ec, rfl, hs, hS, d0, d1, d2, d3, d4⟩ := stmt_place hBd (show j < f.body.length by omega)
  obtain ⟨L, hL⟩ : ∃ L, L = f.body.length := ⟨_, rfl⟩
  rw [← hL] at c2
  have hqn : ((L : Int) == 0) = false := by simp; omega
  have hqw : wrap64 ((L : Int) - 1) = (j : Int) := by rw [IntWalk.wrap64_in _ (by omega)]; omega
  have HZ2 := Lib.hid (stmt_result (w3 := w4.drew) H3.out.2.1 H3.out.2.2.2.2 (H3.out.1.drew) ((stmtP_stays 20).below ((Below.refl _ _).drew) hS))
  rw [setCells5v] at HZ2
  have hq0 : (0 : Int) ≤ (j : Int) := by omega
  have hq1 : (j : Int) < (L : Int) := by omega
  have hq2 : j < L := by omega
  have hq3 : ¬ L = 0 := by omega
  have hbr : rb < b := by
    obtain ⟨b', off', he, hS', -⟩ := H3.out.2.2.1.blk (fun e => by rw [e] at hpi; simp at hpi)
    cases he
    exact hS'
  have hb1r : rb < b1 := by
    obtain ⟨b', off', he, hS', -⟩ := hBd.blk (fun e => by rw [e] at hj; simp at hj)
    cases he
    exact hS'
  have htr : tb ≠ rb := fun e => by
    have := t0
    rw [e] at this
    rw [this] at r0
    cases r0
  have HS0 := Lib.hid (show (w4.cell? ⟨tb, 0, none⟩ = some (.slice (some ⟨b, off, none⟩) ps.length pc) ∧ w4.cell? ⟨b, off + 2, none⟩ = some (.slice (some ⟨b1, off1, none⟩) L bc) ∧ w4.cell? ⟨b1, off1 + j * 5, none⟩ = some (.int .i64 s.op) ∧ w4.cell? ⟨b1, off1 + j * 5 + 1, none⟩ = some (.string s.name) ∧ w4.cell? ⟨b1, off1 + j * 5 + 2, none⟩ = some (.slice aa s.args.length ac) ∧ w4.cell? ⟨b1, off1 + j * 5 + 3, none⟩ = some (.slice sa s.body.length sc) ∧ w4.cell? ⟨b1, off1 + j * 5 + 4, none⟩ = some (.slice ea s.els.length ec)) from ⟨t0, c2, d0, d1, d2, d3, d4⟩)
  have HSD := Lib.hid (show (w4.drew.cell? ⟨tb, 0, none⟩ = some (.slice (some ⟨b, off, none⟩) ps.length pc) ∧ w4.drew.cell? ⟨b, off + 2, none⟩ = some (.slice (some ⟨b1, off1, none⟩) L bc) ∧ w4.drew.cell? ⟨b1, off1 + j * 5, none⟩ = some (.int .i64 s.op) ∧ w4.drew.cell? ⟨b1, off1 + j * 5 + 1, none⟩ = some (.string s.name) ∧ w4.drew.cell? ⟨b1, off1 + j * 5 + 2, none⟩ = some (.slice aa s.args.length ac) ∧ w4.drew.cell? ⟨b1, off1 + j * 5 + 3, none⟩ = some (.slice sa s.body.length sc) ∧ w4.drew.cell? ⟨b1, off1 + j * 5 + 4, none⟩ = some (.slice ea s.els.length ec)) from HS0.out)
  have HS5 := Lib.hid (show ((w4.setCells rb 0 [.int .i64 s.op, .string s.name, .slice aa s.args.length ac, .slice sa s.body.length sc, .slice ea s.els.length ec]).cell? ⟨tb, 0, none⟩ = some (.slice (some ⟨b, off, none⟩) ps.length pc) ∧ (w4.setCells rb 0 [.int .i64 s.op, .string s.name, .slice aa s.args.length ac, .slice sa s.body.length sc, .slice ea s.els.length ec]).cell? ⟨b, off + 2, none⟩ = some (.slice (some ⟨b1, off1, none⟩) L bc) ∧ (w4.setCells rb 0 [.int .i64 s.op, .string s.name, .slice aa s.args.length ac, .slice sa s.body.length sc, .slice ea s.els.length ec]).cell? ⟨b1, off1 + j * 5, none⟩ = some (.int .i64 s.op) ∧ (w4.setCells rb 0 [.int .i64 s.op, .string s.name, .slice aa s.args.length ac, .slice sa s.body.length sc, .slice ea s.els.length ec]).cell? ⟨b1, off1 + j * 5 + 1, none⟩ = some (.string s.name) ∧ (w4.setCells rb 0 [.int .i64 s.op, .string s.name, .slice aa s.args.length ac, .slice sa s.body.length sc, .slice ea s.els.length ec]).cell? ⟨b1, off1 + j * 5 + 2, none⟩ = some (.slice aa s.args.length ac) ∧ (w4.setCells rb 0 [.int .i64 s.op, .string s.name, .slice aa s.args.length ac, .slice sa s.body.length sc, .slice ea s.els.length ec]).cell? ⟨b1, off1 + j * 5 + 3, none⟩ = some (.slice sa s.body.length sc) ∧ (w4.setCells rb 0 [.int .i64 s.op, .string s.name, .slice aa s.args.length ac, .slice sa s.body.length sc, .slice ea s.els.length ec]).cell? ⟨b1, off1 + j * 5 + 4, none⟩ = some (.slice ea s.els.length ec)) from by
    obtain ⟨g0, g1, g2, g3, g4, g5, g6⟩ := HS0.out
    exact ⟨cells_keep g0 htr, cells_keep g1 (by omega), cells_keep g2 (by omega), cells_keep g3 (by omega), cells_keep g4 (by omega), cells_keep g5 (by omega), cells_keep g6 (by omega)⟩)
  rw [setCells5v] at HS5
  clear HZ hbd hBd hf hs hS hbr hb1r htr
  go_upto_region 4 with fail
  have hpN : 0 < ps.length := by omega
  have HRD := Lib.hid (show w4.drew.heap[rb]? = some (.cells #[.int .i64 0, .string ⟨#[]⟩, .slice none 0 0, .slice none 0 0, .slice none 0 0] 46 (0, 0)) from H3.out.2.1)
  have hwr : IntKind.i64.wrap ((L : Int) - 1) = (j : Int) := (IntWalk.i64_left _).trans hqw
  clear hpn hq hqn HS0 HSD HS5 HL HBC hj hL hqm
  go_still_tail 14, (by kernel_rfl)
  change wpList _ _ _ _ _ w4.drew
  clear r0 r1 r2 r3 r4 y0 y1 y2 y3 y4 t0 c2 d0 d1 d2 d3 d4 H3
  generalize w4.drew = w6 at HRD HZ2 ⊢
  have r0 := cell_of_row _ _ 0 _ _ _ HRD.out
  have r1 := cell_of_row _ _ 1 _ _ _ HRD.out
  have r2 := cell_of_row _ _ 2 _ _ _ HRD.out
  have r3 := cell_of_row _ _ 3 _ _ _ HRD.out
  have r4 := cell_of_row _ _ 4 _ _ _ HRD.out
  have y0 := frozen_of_row _ _ 0 _ _ HRD.out
  have y1 := frozen_of_row _ _ 1 _ _ HRD.out
  have y2 := frozen_of_row _ _ 2 _ _ HRD.out
  have y3 := frozen_of_row _ _ 3 _ _ HRD.out
  have y4 := frozen_of_row _ _ 4 _ _ HRD.out
  simp only [List.getElem?_toArray, List.getElem?_cons_zero, List.getElem?_cons_succ] at r0 r1 r2 r3 r4
  go_wp2
  refine bodyPost_ret (results_cell_row rfl _ _ rb 46 (List.toArray [.int .i64 s.op, .string s.name, .slice aa s.args.length ac, .slice sa s.body.length sc, .slice ea s.els.length ec]) (0, 0) _ rfl ?_ Tryd.underlying46 rfl (by kernel_rfl)) rfl ?_
  · exact HZ2.out.1
  exact ⟨_, _, rfl, HZ2.out.2⟩

end Go.Proofs.YtccfbnhlhjlmgaaDoor
