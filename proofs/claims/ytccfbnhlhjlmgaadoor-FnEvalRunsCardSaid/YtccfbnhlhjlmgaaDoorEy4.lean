
/-
  Expressions: ExprValid; the parts of an expression are visited by EvalExpr's closure; with names (printed by mkey4.py).
-/
import Derived.Test.YtccfbnhlhjlmgaaDoorEx4
import Derived.Test.YtccfbnhlhjlmgaaDoorEy3
import Derived.Deep.LoopGhost
namespace Go.Proofs.YtccfbnhlhjlmgaaDoor
open Go.RowKit

/-- A part that has no value where these names have one. -/
def badP (ns : List ByteArray) (e : ExprD) : Bool := (e.op == 12) || ((e.op == 13) || ((e.op == 2) && !hasE ns e.name))
def anyE (p : ExprD → Bool) : Nat → ExprD → Bool
  | 0, _ => false
  | d + 1, e => p e || e.kids.any (anyE p d)

set_option maxRecDepth 100000 in
set_option maxHeartbeats 2000000 in
theorem exprValidN_any (d : Nat) (cs : List Value) (x : ExprD) (w : World) (hO : OpsAt w) (hK : KeysAt w) (hx : ExprAt d w cs x) :
    Calls Tryd.prog 31 #[.agg cs.toArray] w fun e w' => e = .returned (.bool (sizeD nameD 6 x).isSome) ∧ Below w.heap.size w w' := by
  cases d with
  | zero => exact hx.elim
  | succ d =>
  have hx2 := hx
  obtain ⟨ka, kc, rfl, _, _⟩ := hx2
  have hba : Below w.heap.size w (w.alloc (.cells #[.int .i64 x.op, .int .i64 x.n, .string x.name, .slice ka x.kids.length kc] 29)) := (Below.refl _ _).alloc (Nat.le_refl _) _
  have hrow := heap_alloc_new w (.cells #[.int .i64 x.op, .int .i64 x.n, .string x.name, .slice ka x.kids.length kc] 29)
  have e0 := cell_of_row _ _ 0 _ _ _ hrow
  have e1 := cell_of_row _ _ 1 _ _ _ hrow
  have e2 := cell_of_row _ _ 2 _ _ _ hrow
  have e3 := cell_of_row _ _ 3 _ _ _ hrow
  simp only [List.getElem?_toArray, List.getElem?_cons_zero, List.getElem?_cons_succ] at e0 e1 e2 e3
  have HQ := Lib.hid (exprSizeN_any 6 (d + 1) _ x _ (by omega) (hO.later hba) (hK.later hba) (exprAt_lasts (d + 1) _ _ _ _ hba hx))
  have HB := Lib.hid hba
  clear hba hrow hO hx hK
  go_enter Tryd.func31, Tryd.ntmps31
  go_wp2_with fail
  refine HQ.out.mono ?_
  rintro e w5 ⟨⟨p5, d5, rfl, -⟩, hb5⟩
  have HE := Lib.hid (HB.out.trans (hb5.mono HB.out.size))
  clear hb5 e0 e1 e2 e3
  go_wp2
  go_ret
  exact ⟨rfl, HE.out⟩

set_option maxRecDepth 100000 in
set_option maxHeartbeats 2000000 in
/-- The closure looks at one part. -/
theorem lookN_any (bo bn : Nat) (v : Bool) (d : Nat) (cs : List Value) (x : ExprD) (ns : List ByteArray) (na : Option Addr) (nn nc : Nat) (w0 w : World) (hx : ExprAt d w0 cs x) (hcn : w.cell? ⟨bn, 0, none⟩ = some (.slice na nn nc)) (hns : StrsE w na nn ns) (hnn : nn ≤ maxLen) (hv : w.heap[bo]? = some (.cells #[.bool v] 4 (0, 0))) :
    Calls Tryd.prog 65 #[.agg cs.toArray, .pointer (some ⟨bo, 0, none⟩), .pointer (some ⟨bn, 0, none⟩)] w fun e w' => e = .returned (.tuple #[]) ∧ w'.heap[bo]? = some (.cells #[.bool (v && !badP ns x)] 4 (0, 0)) ∧ Turned (fun k => k = bo) w w' := by
  cases d with
  | zero => exact hx.elim
  | succ d =>
  obtain ⟨ka, kc, rfl, _, _⟩ := hx
  obtain ⟨op, n, name, kids⟩ := x
  simp only [ExprD.op, ExprD.n, ExprD.name, ExprD.kids]
  show Calls _ _ #[.agg #[.int .i64 op, .int .i64 n, .string name, .slice ka kids.length kc], _, _] w _
  have hba : Below w.heap.size w (w.alloc (.cells #[.int .i64 op, .int .i64 n, .string name, .slice ka kids.length kc] 29)) := (Below.refl _ _).alloc (Nat.le_refl _) _
  have hrow := heap_alloc_new w (.cells #[.int .i64 op, .int .i64 n, .string name, .slice ka kids.length kc] 29)
  have e0 := cell_of_row _ _ 0 _ _ _ hrow
  have e1 := cell_of_row _ _ 1 _ _ _ hrow
  have e2 := cell_of_row _ _ 2 _ _ _ hrow
  have e3 := cell_of_row _ _ 3 _ _ _ hrow
  simp only [List.getElem?_toArray, List.getElem?_cons_zero, List.getElem?_cons_succ] at e0 e1 e2 e3
  have hbo := (hba.block _ (Array.getElem?_eq_some_iff.1 hv).1).trans hv
  have k0 := cell_of_row _ _ 0 _ _ _ hbo
  have z0 := frozen_of_row _ _ 0 _ _ hbo
  simp only [List.getElem?_toArray, List.getElem?_cons_zero] at k0
  have HB := Lib.hid (And.intro hba hbo)
  have cn := cell_later hba hcn
  have HC := Lib.hid (containsE_any na nn nc ns name _ (hns.later hba) hnn)
  clear hba hrow hbo hv hcn hns hnn
  go_enter Tryd.func65, Tryd.ntmps65
  go_upto_region 1 with fail
  generalize w.alloc (.cells #[.int .i64 op, .int .i64 n, .string name, .slice ka kids.length kc] 29) = W1 at HB HC e0 e1 e2 e3 k0 z0 cn ⊢
  obtain ⟨b, hb⟩ : ∃ b, b = w.heap.size := ⟨_, rfl⟩
  rw [← hb] at e0 e1 e2 e3 ⊢
  clear hb
  have HE := Lib.hid (fun u : Bool => show (W1.setCell ⟨bo, 0, none⟩ (.bool u)).heap[bo]? = some (.cells #[.bool u] 4 (0, 0)) ∧ Turned (fun k => k = bo) w (W1.setCell ⟨bo, 0, none⟩ (.bool u)) from
    ⟨by rw [heap_setCell_same W1 bo 0 _ _ _ HB.out.2]; rfl, (turned_of_below HB.out.1 (fun k h1 h2 => by omega)).trans (turned_store W1 bo 0 (.bool u))⟩)
  cases v with
  | false =>
    go_wp2
    go_end0
    exact ⟨rfl, (HE.out false).1, (HE.out false).2⟩
  | true =>
    by_cases h12 : op = 12
    · subst h12
      clear HC
      go_wp2
      go_end0
      exact ⟨rfl, (HE.out false).1, (HE.out false).2⟩
    · have o12 : (op == 12) = false := by simpa using h12
      have o12b : (op != 12) = true := by rw [bne, o12]; rfl
      clear h12
      by_cases h13 : op = 13
      · subst h13
        clear HC
        go_wp2
        go_end0
        exact ⟨rfl, (HE.out false).1, (HE.out false).2⟩
      · have o13 : (op == 13) = false := by simpa using h13
        have o13b : (op != 13) = true := by rw [bne, o13]; rfl
        clear h13
        by_cases h2 : op = 2
        · subst h2
          clear o12 o12b o13 o13b
          have HV := Lib.hid (show (true && !badP ns (ExprD.mk 2 n name kids)) = hasE ns name by
            show (true && !(false || (false || (true && !hasE ns name)))) = _
            simp)
          generalize hasE ns name = c at HC HV
          go_wp2_with fail
          refine HC.out.mono ?_
          rintro e w2 ⟨rfl, rfl⟩
          go_wp2
          go_end0
          refine ⟨rfl, ?_, (HE.out c).2⟩
          rw [HV.out]
          exact (HE.out c).1
        · have o2 : (op == 2) = false := by simpa using h2
          have o2b : (op != 2) = true := by rw [bne, o2]; rfl
          have HV := Lib.hid (show (true && !badP ns (ExprD.mk op n name kids)) = true by
            show (true && !((op == 12) || ((op == 13) || ((op == 2) && !hasE ns name)))) = _
            rw [o12, o13, o2]
            rfl)
          clear h2 HC
          go_wp2
          go_end0
          refine ⟨rfl, ?_, (HE.out true).2⟩
          rw [HV.out]
          exact (HE.out true).1

set_option maxRecDepth 100000 in
set_option maxHeartbeats 4000000 in
/-- The parts are looked at, one by one. -/
theorem partsN_any (bo bn : Nat) (ns : List ByteArray) (na : Option Addr) (nn nc : Nat) (w0 : World) (hbo : w0.heap.size ≤ bo) (hcn : w0.cell? ⟨bn, 0, none⟩ = some (.slice na nn nc)) (hns : StrsE w0 na nn ns) (hnn : nn ≤ maxLen) : ∀ (d : Nat) (v : Bool) (cs : List Value) (x : ExprD) (w : World), ExprAt d w0 cs x → Below w0.heap.size w0 w → w.heap[bo]? = some (.cells #[.bool v] 4 (0, 0)) →
    Calls Tryd.prog 64 #[.agg cs.toArray, .func (.func 65) #[] #[.pointer (some ⟨bo, 0, none⟩), .pointer (some ⟨bn, 0, none⟩)]] w fun e w' => e = .returned (.tuple #[]) ∧ w'.heap[bo]? = some (.cells #[.bool (v && !anyE (badP ns) d x)] 4 (0, 0)) ∧ Turned (fun k => k = bo) w w' := by
  intro d
  induction d with
  | zero => exact fun _ _ _ _ h => h.elim
  | succ d ih =>
  intro v cs x w hx hB hv
  have hx2 := hx
  obtain ⟨ka, kc, rfl, ⟨hkl, -⟩, hks⟩ := hx2
  have hkl2 : x.kids.length ≤ 9223372036854775807 := by unfold maxLen at hkl; omega
  have hba : Below w.heap.size w (w.alloc (.cells #[.int .i64 x.op, .int .i64 x.n, .string x.name, .slice ka x.kids.length kc] 29)) := (Below.refl _ _).alloc (Nat.le_refl _) _
  have hrow := heap_alloc_new w (.cells #[.int .i64 x.op, .int .i64 x.n, .string x.name, .slice ka x.kids.length kc] 29)
  have e0 := cell_of_row _ _ 0 _ _ _ hrow
  have e1 := cell_of_row _ _ 1 _ _ _ hrow
  have e2 := cell_of_row _ _ 2 _ _ _ hrow
  have e3 := cell_of_row _ _ 3 _ _ _ hrow
  simp only [List.getElem?_toArray, List.getElem?_cons_zero, List.getElem?_cons_succ] at e0 e1 e2 e3
  have hlook := lookN_any bo bn v (d + 1) _ x ns na nn nc w0 _ hx (cell_later (hB.trans (hba.mono hB.size)) hcn) (hns.later (hB.trans (hba.mono hB.size))) hnn ((hba.block _ (Array.getElem?_eq_some_iff.1 hv).1).trans hv)
  have HL := Lib.hid hlook
  have hblt := (Array.getElem?_eq_some_iff.1 hv).1
  have HA := Lib.hid (And.intro (hB.trans (hba.mono hB.size)) (And.intro (turned_of_below (S := fun k => k = bo) hba (fun k h1 h2 => by omega)) (And.intro hrow (show w.heap.size ≠ bo by omega))))
  have HK := Lib.hid hks
  have hen : ∀ v W, (callFunc 65 (#[v] ++ #[.pointer (some ⟨bo, 0, none⟩), .pointer (some ⟨bn, 0, none⟩)])).run Tryd.prog W = .ok (.enter 65 (#[v] ++ #[.pointer (some ⟨bo, 0, none⟩), .pointer (some ⟨bn, 0, none⟩)])) W := fun v W => by kernel_rfl
  clear hlook hx hks hba hrow hblt
  go_enter Tryd.func64, Tryd.ntmps64
  go_wp2_with fail
  refine HL.out.mono ?_
  rintro e w2 ⟨rfl, hv2, ht2⟩
  obtain ⟨b, hb⟩ : ∃ b, b = w.heap.size := ⟨_, rfl⟩
  rw [← hb] at HA ⊢
  have hrow2 : w2.heap[b]? = some (.cells #[.int .i64 x.op, .int .i64 x.n, .string x.name, .slice ka x.kids.length kc] 29 (0, 0)) := (ht2.block b (Array.getElem?_eq_some_iff.1 HA.out.2.2.1).1 (by have := HA.out.2.2.2; omega)).trans HA.out.2.2.1
  have g3 := cell_of_row _ _ 3 _ _ _ hrow2
  simp only [List.getElem?_toArray, List.getElem?_cons_zero, List.getElem?_cons_succ] at g3
  have H2 := Lib.hid (And.intro hv2 (And.intro (HA.out.1.trans (ht2.below (B := w0.heap.size) HA.out.1.size (fun k hk => by omega))) (HA.out.2.1.trans ht2)))
  clear hrow2 hv2 ht2 hb e0 e1 e2 e3 hen HL hv hB
  go_wp2_with fail
  clear g3
  go_loopg [12] x.kids.length (fun G i wr => ∃ (j : Nat) (u : Bool), j + G = x.kids.length ∧ i = .int .i64 j ∧ Hid (u = ((v && !badP ns x) && !((x.kids.take j).any (anyE (badP ns) d))) ∧ wr.heap[bo]? = some (.cells #[.bool u] 4 (0, 0)) ∧ Below w0.heap.size w0 wr ∧ Turned (fun k => k = bo) w wr))
  case atStart => exact ⟨0, _, by omega, rfl, Lib.hid ⟨by simp, H2.out.1, H2.out.2.1, H2.out.2.2⟩⟩
  case round =>
    obtain ⟨j, u, hj, rfl, HR⟩ := hrel
    by_cases hlt : j < x.kids.length
    · obtain ⟨b1, o1, k, cs1, rfl, hk, hkR, k1, k2, rfl, c0, c1, c2, c3⟩ := kid_place HK.out hlt
      have hki : (j : Int) < (x.kids.length : Int) := by omega
      have d0 := cell_later HR.out.2.2.1 c0
      have d1 := cell_later HR.out.2.2.1 c1
      have d2 := cell_later HR.out.2.2.1 c2
      have d3 := cell_later HR.out.2.2.1 c3
      have hba : Below wr.heap.size wr (wr.alloc (.cells #[.int .i64 k.op, .int .i64 k.n, .string k.name, .slice k1 k.kids.length k2] 29)) := (Below.refl _ _).alloc (Nat.le_refl _) _
      have hrow := heap_alloc_new wr (.cells #[.int .i64 k.op, .int .i64 k.n, .string k.name, .slice k1 k.kids.length k2] 29)
      have e0 := cell_of_row _ _ 0 _ _ _ hrow
      have e1 := cell_of_row _ _ 1 _ _ _ hrow
      have e2 := cell_of_row _ _ 2 _ _ _ hrow
      have e3 := cell_of_row _ _ 3 _ _ _ hrow
      simp only [List.getElem?_toArray, List.getElem?_cons_zero, List.getElem?_cons_succ] at e0 e1 e2 e3
      have hb3 := HR.out.2.2.1.trans (hba.mono HR.out.2.2.1.size)
      have HQ := Lib.hid (ih u _ k _ hkR hb3 ((hba.block _ (Array.getElem?_eq_some_iff.1 HR.out.2.1).1).trans HR.out.2.1))
      have HT := Lib.hid (And.intro hb3 (And.intro (HR.out.2.2.2.trans (turned_of_below (S := fun k => k = bo) hba (fun k h1 h2 => by omega))) (show x.kids.take (j + 1) = x.kids.take j ++ [k] from take_succ_of hk)))
      clear hba hrow hb3 hk hkR c0 c1 c2 c3 ih
      go_wp2_with fail
      refine HQ.out.mono ?_
      rintro e w5 ⟨rfl, hv5, ht5⟩
      have HE := Lib.hid (And.intro hv5 (And.intro (HT.out.1.trans (ht5.below (B := w0.heap.size) HT.out.1.size (fun k hk => by omega))) (HT.out.2.1.trans ht5)))
      clear hv5 ht5 d0 d1 d2 d3 e0 e1 e2 e3
      go_wp2
      go_roundg (gk - 1)
      case measure => omega
      case rel => exact ⟨j + 1, _, by omega, by go_num, Lib.hid ⟨by rw [HR.out.1, HT.out.2.2, List.any_append]; simp [Bool.and_assoc], HE.out.1, HE.out.2.1, HE.out.2.2⟩⟩
    · obtain rfl : j = x.kids.length := by omega
      have HF := Lib.hid (show u = (v && !anyE (badP ns) (d + 1) x) by rw [HR.out.1, List.take_length, anyE]; simp [Bool.and_assoc])
      go_wp2
      go_end0
      rw [← HF.out]
      exact ⟨rfl, HR.out.2.1, HR.out.2.2.2⟩

end Go.Proofs.YtccfbnhlhjlmgaaDoor
