
/-
  Expressions: ExprValid; the parts of an expression are visited by EvalExpr's closure.
-/
import Derived.Test.YtccfbnhlhjlmgaaDoorEx3
import Derived.Deep.LoopGhost
namespace Go.Proofs.YtccfbnhlhjlmgaaDoor
open Go.RowKit

set_option maxRecDepth 100000 in
set_option maxHeartbeats 2000000 in
theorem exprValid_any (nameB : ByteArray → Bool) (d : Nat) (cs : List Value) (x : ExprD) (w : World) (hO : OpsAt w) (hx : ExprAt d w cs x) (hN : anyOp namedOp d x = false) :
    Calls Tryd.prog 31 #[.agg cs.toArray] w fun e w' => e = .returned (.bool (sizeD nameB 6 x).isSome) ∧ Below w.heap.size w w' := by
  cases d with
  | zero => exact hx.elim
  | succ d =>
  have hx2 := hx
  obtain ⟨ka, kc, rfl, _, _⟩ := hx2
  have hba : Below w.heap.size w (w.alloc (.cells #[.int .i64 x.op, .int .i64 x.n, .string x.name, .slice ka x.kids.length kc] 29)) := (Below.refl _ _).alloc (Nat.le_refl _) _
  have hrow := heap_alloc_new w (.cells #[.int .i64 x.op, .int .i64 x.n, .string x.name, .slice ka x.kids.length kc] 29)
  have e0 := cell_of_row _ _ 0 _ _ _ hrow
  have e1 := cell_of_row _ _ 1 _ _ _ hrow
  have e2 := cell_of_row _ _ 2 _ _ _ hrow
  have e3 := cell_of_row _ _ 3 _ _ _ hrow
  simp only [List.getElem?_toArray, List.getElem?_cons_zero, List.getElem?_cons_succ] at e0 e1 e2 e3
  have HQ := Lib.hid (exprSize_any nameB 6 (d + 1) _ x _ (by omega) (hO.later hba) (exprAt_lasts (d + 1) _ _ _ _ hba hx) hN)
  have HB := Lib.hid hba
  clear hba hrow hO hx hN
  go_enter Tryd.func31, Tryd.ntmps31
  go_wp2_with fail
  refine HQ.out.mono ?_
  rintro e w5 ⟨⟨p5, d5, rfl, -⟩, hb5⟩
  have HE := Lib.hid (HB.out.trans (hb5.mono HB.out.size))
  clear hb5 e0 e1 e2 e3
  go_wp2
  go_ret
  exact ⟨rfl, HE.out⟩

set_option maxRecDepth 100000 in
set_option maxHeartbeats 2000000 in
/-- The closure looks at one part. -/
theorem look_any (bo bn : Nat) (v : Bool) (d : Nat) (cs : List Value) (x : ExprD) (w0 w : World) (hx : ExprAt d w0 cs x) (h2 : namedOp x.op = false) (hv : w.heap[bo]? = some (.cells #[.bool v] 4 (0, 0))) :
    Calls Tryd.prog 65 #[.agg cs.toArray, .pointer (some ⟨bo, 0, none⟩), .pointer (some ⟨bn, 0, none⟩)] w fun e w' => e = .returned (.tuple #[]) ∧ w'.heap[bo]? = some (.cells #[.bool (v && !(x.op == 12))] 4 (0, 0)) ∧ Turned (fun k => k = bo) w w' := by
  cases d with
  | zero => exact hx.elim
  | succ d =>
  obtain ⟨ka, kc, rfl, _, _⟩ := hx
  obtain ⟨op, n, name, kids⟩ := x
  simp only [ExprD.op, ExprD.n, ExprD.name, ExprD.kids] at h2 ⊢
  show Calls _ _ #[.agg #[.int .i64 op, .int .i64 n, .string name, .slice ka kids.length kc], _, _] w _
  simp only [namedOp, Bool.or_eq_false_iff] at h2
  obtain ⟨n2, n13⟩ := h2
  have hba : Below w.heap.size w (w.alloc (.cells #[.int .i64 op, .int .i64 n, .string name, .slice ka kids.length kc] 29)) := (Below.refl _ _).alloc (Nat.le_refl _) _
  have hrow := heap_alloc_new w (.cells #[.int .i64 op, .int .i64 n, .string name, .slice ka kids.length kc] 29)
  have e0 := cell_of_row _ _ 0 _ _ _ hrow
  have e1 := cell_of_row _ _ 1 _ _ _ hrow
  have e2 := cell_of_row _ _ 2 _ _ _ hrow
  have e3 := cell_of_row _ _ 3 _ _ _ hrow
  simp only [List.getElem?_toArray, List.getElem?_cons_zero, List.getElem?_cons_succ] at e0 e1 e2 e3
  have hbo := (hba.block _ (Array.getElem?_eq_some_iff.1 hv).1).trans hv
  have k0 := cell_of_row _ _ 0 _ _ _ hbo
  have z0 := frozen_of_row _ _ 0 _ _ hbo
  simp only [List.getElem?_toArray, List.getElem?_cons_zero] at k0
  have HB := Lib.hid (And.intro hba hbo)
  clear hba hrow hbo hv
  have m2 : (op != 2) = true := by rw [bne, n2]; rfl
  have m13 : (op != 13) = true := by rw [bne, n13]; rfl
  go_enter Tryd.func65, Tryd.ntmps65
  go_upto_region 1 with fail
  generalize w.alloc (.cells #[.int .i64 op, .int .i64 n, .string name, .slice ka kids.length kc] 29) = W1 at HB e0 e1 e2 e3 k0 z0 ⊢
  obtain ⟨b, hb⟩ : ∃ b, b = w.heap.size := ⟨_, rfl⟩
  rw [← hb] at e0 e1 e2 e3 ⊢
  clear hb
  have HE := Lib.hid (fun u : Bool => show (W1.setCell ⟨bo, 0, none⟩ (.bool u)).heap[bo]? = some (.cells #[.bool u] 4 (0, 0)) ∧ Turned (fun k => k = bo) w (W1.setCell ⟨bo, 0, none⟩ (.bool u)) from
    ⟨by rw [heap_setCell_same W1 bo 0 _ _ _ HB.out.2]; rfl, (turned_of_below HB.out.1 (fun k h1 h2 => by omega)).trans (turned_store W1 bo 0 (.bool u))⟩)
  cases v with
  | false =>
    go_wp2
    go_end0
    exact ⟨rfl, (HE.out false).1, (HE.out false).2⟩
  | true =>
    by_cases h12 : op = 12
    · subst h12
      go_wp2
      go_end0
      exact ⟨rfl, (HE.out false).1, (HE.out false).2⟩
    · have o12 : (op == 12) = false := by simpa using h12
      have o12b : (op != 12) = true := by rw [bne, o12]; rfl
      clear h12
      go_wp2
      go_end0
      refine ⟨rfl, ?_, (HE.out true).2⟩
      rw [o12]
      exact (HE.out true).1

def atOp (o : Int) : Bool := o == 12
set_option maxRecDepth 100000 in
set_option maxHeartbeats 4000000 in
/-- The parts are looked at, one by one. -/
theorem parts_any (bo bn : Nat) (w0 : World) (hbo : w0.heap.size ≤ bo) : ∀ (d : Nat) (v : Bool) (cs : List Value) (x : ExprD) (w : World), ExprAt d w0 cs x → anyOp namedOp d x = false → Below w0.heap.size w0 w → w.heap[bo]? = some (.cells #[.bool v] 4 (0, 0)) →
    Calls Tryd.prog 64 #[.agg cs.toArray, .func (.func 65) #[] #[.pointer (some ⟨bo, 0, none⟩), .pointer (some ⟨bn, 0, none⟩)]] w fun e w' => e = .returned (.tuple #[]) ∧ w'.heap[bo]? = some (.cells #[.bool (v && !anyOp atOp d x)] 4 (0, 0)) ∧ Turned (fun k => k = bo) w w' := by
  intro d
  induction d with
  | zero => exact fun _ _ _ _ h => h.elim
  | succ d ih =>
  intro v cs x w hx hN hB hv
  have hx2 := hx
  obtain ⟨ka, kc, rfl, ⟨hkl, -⟩, hks⟩ := hx2
  have hkl2 : x.kids.length ≤ 9223372036854775807 := by unfold maxLen at hkl; omega
  have hN2 := hN
  rw [anyOp, Bool.or_eq_false_iff] at hN2
  have hba : Below w.heap.size w (w.alloc (.cells #[.int .i64 x.op, .int .i64 x.n, .string x.name, .slice ka x.kids.length kc] 29)) := (Below.refl _ _).alloc (Nat.le_refl _) _
  have hrow := heap_alloc_new w (.cells #[.int .i64 x.op, .int .i64 x.n, .string x.name, .slice ka x.kids.length kc] 29)
  have e0 := cell_of_row _ _ 0 _ _ _ hrow
  have e1 := cell_of_row _ _ 1 _ _ _ hrow
  have e2 := cell_of_row _ _ 2 _ _ _ hrow
  have e3 := cell_of_row _ _ 3 _ _ _ hrow
  simp only [List.getElem?_toArray, List.getElem?_cons_zero, List.getElem?_cons_succ] at e0 e1 e2 e3
  have hlook := look_any bo bn v (d + 1) _ x w0 _ hx hN2.1 ((hba.block _ (Array.getElem?_eq_some_iff.1 hv).1).trans hv)
  have HL := Lib.hid hlook
  have hblt := (Array.getElem?_eq_some_iff.1 hv).1
  have HA := Lib.hid (And.intro (hB.trans (hba.mono hB.size)) (And.intro (turned_of_below (S := fun k => k = bo) hba (fun k h1 h2 => by omega)) (And.intro hrow (show w.heap.size ≠ bo by omega))))
  have HK := Lib.hid (And.intro hks hN2.2)
  have hen : ∀ v W, (callFunc 65 (#[v] ++ #[.pointer (some ⟨bo, 0, none⟩), .pointer (some ⟨bn, 0, none⟩)])).run Tryd.prog W = .ok (.enter 65 (#[v] ++ #[.pointer (some ⟨bo, 0, none⟩), .pointer (some ⟨bn, 0, none⟩)])) W := fun v W => by kernel_rfl
  clear hlook hN2 hx hN hks hba hrow hblt
  go_enter Tryd.func64, Tryd.ntmps64
  go_wp2_with fail
  refine HL.out.mono ?_
  rintro e w2 ⟨rfl, hv2, ht2⟩
  obtain ⟨b, hb⟩ : ∃ b, b = w.heap.size := ⟨_, rfl⟩
  rw [← hb] at HA ⊢
  have hrow2 : w2.heap[b]? = some (.cells #[.int .i64 x.op, .int .i64 x.n, .string x.name, .slice ka x.kids.length kc] 29 (0, 0)) := (ht2.block b (Array.getElem?_eq_some_iff.1 HA.out.2.2.1).1 (by have := HA.out.2.2.2; omega)).trans HA.out.2.2.1
  have g3 := cell_of_row _ _ 3 _ _ _ hrow2
  simp only [List.getElem?_toArray, List.getElem?_cons_zero, List.getElem?_cons_succ] at g3
  have H2 := Lib.hid (And.intro hv2 (And.intro (HA.out.1.trans (ht2.below (B := w0.heap.size) HA.out.1.size (fun k hk => by omega))) (HA.out.2.1.trans ht2)))
  clear hrow2 hv2 ht2 hb e0 e1 e2 e3 hen HL hv hB
  go_wp2_with fail
  clear g3
  go_loopg [12] x.kids.length (fun G i wr => ∃ (j : Nat) (u : Bool), j + G = x.kids.length ∧ i = .int .i64 j ∧ Hid (u = ((v && !(x.op == 12)) && !((x.kids.take j).any (anyOp atOp d))) ∧ wr.heap[bo]? = some (.cells #[.bool u] 4 (0, 0)) ∧ Below w0.heap.size w0 wr ∧ Turned (fun k => k = bo) w wr))
  case atStart => exact ⟨0, _, by omega, rfl, Lib.hid ⟨by simp, H2.out.1, H2.out.2.1, H2.out.2.2⟩⟩
  case round =>
    obtain ⟨j, u, hj, rfl, HR⟩ := hrel
    by_cases hlt : j < x.kids.length
    · obtain ⟨b1, o1, k, cs1, rfl, hk, hkR, k1, k2, rfl, c0, c1, c2, c3⟩ := kid_place HK.out.1 hlt
      have hki : (j : Int) < (x.kids.length : Int) := by omega
      have d0 := cell_later HR.out.2.2.1 c0
      have d1 := cell_later HR.out.2.2.1 c1
      have d2 := cell_later HR.out.2.2.1 c2
      have d3 := cell_later HR.out.2.2.1 c3
      have hba : Below wr.heap.size wr (wr.alloc (.cells #[.int .i64 k.op, .int .i64 k.n, .string k.name, .slice k1 k.kids.length k2] 29)) := (Below.refl _ _).alloc (Nat.le_refl _) _
      have hrow := heap_alloc_new wr (.cells #[.int .i64 k.op, .int .i64 k.n, .string k.name, .slice k1 k.kids.length k2] 29)
      have e0 := cell_of_row _ _ 0 _ _ _ hrow
      have e1 := cell_of_row _ _ 1 _ _ _ hrow
      have e2 := cell_of_row _ _ 2 _ _ _ hrow
      have e3 := cell_of_row _ _ 3 _ _ _ hrow
      simp only [List.getElem?_toArray, List.getElem?_cons_zero, List.getElem?_cons_succ] at e0 e1 e2 e3
      have hkn : anyOp namedOp d k = false := by
        have := List.any_eq_false.1 HK.out.2 k (List.mem_of_getElem? hk)
        simpa using this
      have hb3 := HR.out.2.2.1.trans (hba.mono HR.out.2.2.1.size)
      have HQ := Lib.hid (ih u _ k _ hkR hkn hb3 ((hba.block _ (Array.getElem?_eq_some_iff.1 HR.out.2.1).1).trans HR.out.2.1))
      have HT := Lib.hid (And.intro hb3 (And.intro (HR.out.2.2.2.trans (turned_of_below (S := fun k => k = bo) hba (fun k h1 h2 => by omega))) (show x.kids.take (j + 1) = x.kids.take j ++ [k] from take_succ_of hk)))
      clear hba hrow hkn hb3 hk hkR c0 c1 c2 c3 ih
      go_wp2_with fail
      refine HQ.out.mono ?_
      rintro e w5 ⟨rfl, hv5, ht5⟩
      have HE := Lib.hid (And.intro hv5 (And.intro (HT.out.1.trans (ht5.below (B := w0.heap.size) HT.out.1.size (fun k hk => by omega))) (HT.out.2.1.trans ht5)))
      clear hv5 ht5 d0 d1 d2 d3 e0 e1 e2 e3
      go_wp2
      go_roundg (gk - 1)
      case measure => omega
      case rel => exact ⟨j + 1, _, by omega, by go_num, Lib.hid ⟨by rw [HR.out.1, HT.out.2.2, List.any_append]; simp [Bool.and_assoc], HE.out.1, HE.out.2.1, HE.out.2.2⟩⟩
    · obtain rfl : j = x.kids.length := by omega
      have HF := Lib.hid (show u = (v && !anyOp atOp (d + 1) x) by rw [HR.out.1, List.take_length, anyOp, atOp]; simp [Bool.and_assoc])
      go_wp2
      go_end0
      rw [← HF.out]
      exact ⟨rfl, HR.out.2.1, HR.out.2.2.2⟩

end Go.Proofs.YtccfbnhlhjlmgaaDoor
