/-
  How many blocks dominate a block: the reference's answer and the program's.
-/
import Derived.Test.YtclihjgojmfjiaaDominates
namespace Go.Proofs.Ytclihjgojmfjiaa
open Go.RowKit

noncomputable def cntDom (g : List (List Int)) (b : Nat) : Nat → Nat
  | 0 => 0
  | k + 1 => cntDom g b k + (if domB g k b then 1 else 0)
theorem cntDom_le (g : List (List Int)) (b : Nat) : ∀ k, cntDom g b k ≤ k
  | 0 => Nat.le_refl _
  | k + 1 => by have := cntDom_le g b k; unfold cntDom; split <;> omega
theorem cntDom_zero {g : List (List Int)} {b : Nat} (h : reachB g (-1) b = false) : ∀ k, cntDom g b k = 0
  | 0 => rfl
  | k + 1 => by rw [cntDom, cntDom_zero h k]; simp [domB, h]
noncomputable def depthP (g : List (List Int)) (b : Int) : Int := if inP g b then (cntDom g b.toNat g.length : Int) - 1 else -1

theorem int_val {a b : Int} (h : a = b) : Value.int .i64 a = .int .i64 b := by rw [h]

theorem l5Truth_any (v : Bool) (w : World) : Calls Try.prog 59 #[.bool v] w fun e w' => e = .returned (.int .i64 (if v then 1 else 0)) ∧ w = w' := by
  cases v <;> (
    go_enter Try.func59, Try.ntmps59
    go_wp2
    go_ret
    exact ⟨rfl, rfl⟩)

set_option maxRecDepth 100000 in
set_option maxHeartbeats 1000000 in
theorem specDomDepth_any (p r : Int) (ba : Option Addr) (bc : Nat) (g : List (List Int)) (b : Int) (w : World) (hg : Gr w ba g) :
    Calls Try.prog 22 #[.agg #[.int .i64 p, .int .i64 r, .slice ba g.length bc], .int .i64 b] w fun e w' => e = .returned (.int .i64 (depthP g b)) ∧ Below w.heap.size w w' := by
  have hb0 := below_box w (.int .i64 p) (.int .i64 r) (.slice ba g.length bc)
  have HC := Lib.hid (heap_alloc_new w (.cells #[.int .i64 p, .int .i64 r, .slice ba g.length bc] 29))
  have hlen := hg.len
  go_enter Try.func22, Try.ntmps22
  go_wp2_with fail
  refine (l11In_any p r ba bc g b _ (hg.later hb0)).mono ?_
  rintro e w1 ⟨rfl, hb1⟩
  have hb01 := hb0.trans (hb1.mono hb0.size)
  have hC1 := (hb1.block w.heap.size (by simp)).trans HC.out
  have hk0 : w1.cell? ⟨w.heap.size, 0, none⟩ = some (.int .i64 p) := cell_of_row _ _ 0 _ _ _ hC1
  have hk1 : w1.cell? ⟨w.heap.size, 1, none⟩ = some (.int .i64 r) := cell_of_row _ _ 1 _ _ _ hC1
  have hk2 : w1.cell? ⟨w.heap.size, 2, none⟩ = some (.slice ba g.length bc) := cell_of_row _ _ 2 _ _ _ hC1
  clear hC1
  cases hb : inP g b with
  | false =>
    have HF := Lib.hid hb
    clear hb
    go_wp2
    go_ret
    exact ⟨ret_int (by rw [depthP, HF.out]; rfl), hb01⟩
  | true =>
    have HB := Lib.hid hb
    clear hb
    obtain ⟨hf, hb0', hb1'⟩ := inP_true.1 HB.out
    obtain ⟨b, rfl⟩ : ∃ n : Nat, b = (n : Int) := ⟨b.toNat, by omega⟩
    have hbn : b < g.length := by omega
    clear hb0' hb1'
    go_wp2_with fail
    refine (l11Doms_any g hf p r ba bc w1 (hg.later hb01)).mono ?_
    rintro e w3 ⟨oa, oc, rfl, hM, hb3⟩
    have hbF := hb01.trans (hb3.mono hb01.size)
    have HM := Lib.hid hM.rd
    clear hM hk0 hk1 hk2 hb3
    go_wp2
    go_loopg [6, 7] g.length (fun F c i wr => ∃ k : Nat, k + F = g.length ∧ i = .int .i64 k ∧ c = .int .i64 ((cntDom g b k : Int) - 1) ∧ wr = w3)
    case atStart => exact ⟨0, by omega, rfl, rfl, rfl⟩
    case round =>
      obtain ⟨k, hk, rfl, rfl, rfl⟩ := hrel
      by_cases hlt : k < g.length
      · obtain ⟨b1, o1, rb, ro, rc, rfl, c1, c2⟩ := BMat.cell HM.out hlt hbn
        have hcl := cntDom_le g b k
        have hsucc : cntDom g b (k + 1) = cntDom g b k + (if domB g k b then 1 else 0) := rfl
        have HS := Lib.hid hsucc
        clear hsucc
        generalize domB g k b = v at c2 HS
        go_wp2_with fail
        refine (l5Truth_any v _).mono ?_
        rintro e w4 ⟨rfl, rfl⟩
        cases v <;> (
          go_wp2
          go_roundg (gk - 1)
          case measure => omega
          case rel => exact ⟨k + 1, by omega, by go_num, int_val (by have h := HS.out; simp at h; omega), rfl⟩)
      · obtain rfl : k = g.length := by omega
        go_wp2
        go_ret
        exact ⟨ret_int (by rw [depthP, HB.out]; rfl), hbF⟩

set_option maxRecDepth 100000 in
theorem depth_any (p r : Int) (ba : Option Addr) (bc : Nat) (g : List (List Int)) (db : Nat) (oa : Option Addr) (oc sb : Nat) (b : Nat) (hbn : b < g.length) (w : World) (hD : DomsAt w p r ba bc g db oa oc sb) (hlen : g.length ≤ 1048576) :
    Calls Try.prog 60 #[.pointer (some ⟨db, 0, none⟩), .int .i64 (b : Int)] w fun e w' => e = .returned (.int .i64 ((cntDom g b g.length : Int) - 1)) ∧ Below w.heap.size w w' := by
  have hd3 : w.cell? ⟨db, 3, none⟩ = some (.slice oa g.length oc) := cell_of_row _ _ 3 _ _ _ hD.blk
  have HM := Lib.hid hD.over
  clear hD
  go_enter Try.func60, Try.ntmps60
  go_wp2
  go_loopg [5, 12] g.length (fun F c i wr => ∃ k : Nat, k + F = g.length ∧ i = .int .i64 k ∧ c = .int .i64 ((cntDom g b k : Int) - 1) ∧ wr = w)
  case atStart => exact ⟨0, by omega, rfl, rfl, rfl⟩
  case round =>
    obtain ⟨k, hk, rfl, rfl, rfl⟩ := hrel
    by_cases hlt : k < g.length
    · obtain ⟨b1, o1, rb, ro, rc, rfl, c1, c2⟩ := BMat.cell HM.out hlt hbn
      have hcl := cntDom_le g b k
      have hsucc : cntDom g b (k + 1) = cntDom g b k + (if domB g k b then 1 else 0) := rfl
      have HS := Lib.hid hsucc
      clear hsucc
      generalize domB g k b = v at c2 HS
      cases v <;> (
        go_wp2
        go_roundg (gk - 1)
        case measure => omega
        case rel => exact ⟨k + 1, by omega, by go_num, int_val (by have h := HS.out; simp at h; omega), rfl⟩)
    · obtain rfl : k = g.length := by omega
      go_wp2
      go_ret
      exact ⟨rfl, Below.refl _ _⟩

theorem depthP_of {g : List (List Int)} {b : Int} (hf : Fits g) : depthP g b = if hasP g b then (cntDom g b.toNat g.length : Int) - 1 else -1 := by
  rw [depthP, inP, hasP, fits_iff.2 hf, Bool.true_and]
  by_cases ho : okN g.length b = true
  · rw [ho, Bool.true_and, if_pos rfl]
    by_cases hr : reachB g (-1) b.toNat = true
    · rw [hr, if_pos rfl]
    · rw [cntDom_zero (by simpa using hr), if_neg hr]; rfl
  · have ho' : okN g.length b = false := by simpa using ho
    rw [ho']; rfl

set_option maxRecDepth 100000 in
theorem implDomDepth_any (p r : Int) (ba : Option Addr) (bc : Nat) (g : List (List Int)) (b : Int) (w : World) (hg : Gr w ba g) :
    Calls Try.prog 23 #[.agg #[.int .i64 p, .int .i64 r, .slice ba g.length bc], .int .i64 b] w fun e w' => e = .returned (.int .i64 (depthP g b)) ∧ Below w.heap.size w w' := by
  have hb0 := below_box w (.int .i64 p) (.int .i64 r) (.slice ba g.length bc)
  have hlen := hg.len
  go_enter Try.func23, Try.ntmps23
  go_wp2_with fail
  refine (domsOf_any g p r ba bc _ (hg.later hb0)).mono ?_
  rintro e w1 ⟨hb1, hcase⟩
  have hb01 := hb0.trans (hb1.mono hb0.size)
  rcases hcase with ⟨hf, rfl⟩ | ⟨hf, db, oa, oc, sb, rfl, hD⟩
  · have HF := Lib.hid hf
    clear hf
    go_wp2_with fail
    refine (has_nil b w1).mono ?_
    rintro e w2 ⟨rfl, hb2⟩
    go_wp2
    go_ret
    exact ⟨ret_int (by rw [depthP, inP, HF.out]; rfl), hb01.trans (hb2.mono hb01.size)⟩
  · have HP := Lib.hid (depthP_of (b := b) hf)
    go_wp2_with fail
    refine (has_any p r ba bc g db oa oc sb b w1 hD hlen).mono ?_
    rintro e w2 ⟨rfl, hb2⟩
    have hb02 := hb01.trans (hb2.mono hb01.size)
    have hD2 := hD.later hb2
    cases hh : hasP g b with
    | false =>
      have HH := Lib.hid hh
      clear hh
      go_wp2
      go_ret
      exact ⟨ret_int (by rw [HP.out, HH.out]; rfl), hb02⟩
    | true =>
      have HH := Lib.hid hh
      simp only [hasP, Bool.and_eq_true, okN_iff] at hh
      obtain ⟨b, rfl⟩ : ∃ n : Nat, b = (n : Int) := ⟨b.toNat, by omega⟩
      have hbn : b < g.length := by omega
      clear hh
      go_wp2_with fail
      refine (depth_any p r ba bc g db oa oc sb b hbn w2 hD2 hlen).mono ?_
      rintro e w3 ⟨rfl, hb3⟩
      go_wp2
      go_ret
      exact ⟨ret_int (by rw [HP.out, HH.out]; rfl), hb02.trans (hb3.mono hb02.size)⟩

end Go.Proofs.Ytclihjgojmfjiaa
