
/-
  Does a block dominate another one: the reference's answer and the program's.
-/
import Derived.Test.YtkhnhdgbbjppeaaDomsImpl
namespace Go.Proofs.Ytkhnhdgbbjppeaa
open Go.RowKit

/-- Is b a block of a code that is a graph? -/
noncomputable def inP (g : List (List Int)) (b : Int) : Bool := fits g && okN g.length b
noncomputable def domP (g : List (List Int)) (a b : Int) : Bool := inP g a && (inP g b && domB g a.toNat b.toNat)
theorem inP_true {g : List (List Int)} {b : Int} : inP g b = true ↔ Fits g ∧ 0 ≤ b ∧ b < g.length := by
  rw [inP, Bool.and_eq_true, fits_iff, okN_iff]
theorem BMat.cell {w : World} {a : Option Addr} {g : List (List Int)} (h : BMat w a g.length (domMat g)) {x y : Nat} (hx : x < g.length) (hy : y < g.length) :
    ∃ b off rb roff rc, a = some ⟨b, off, none⟩ ∧ w.cell? ⟨b, off + x, none⟩ = some (.slice (some ⟨rb, roff, none⟩) g.length rc) ∧ w.cell? ⟨rb, roff + y, none⟩ = some (.bool (domB g x y)) := by
  obtain ⟨b, off, ra, rc, bs, rfl, hm, hc, hr⟩ := BMat.place h hx
  rw [domMat_get hx] at hm
  cases hm
  rw [domRow_length] at hc hr
  obtain ⟨rb, roff, v, rfl, hv, hc2⟩ := hr.place hy
  rw [domRow_get hy] at hv
  cases hv
  exact ⟨b, off, rb, roff, rc, rfl, hc, hc2⟩

/-- A code's value, and what lies behind it. -/
abbrev codeV (p r : Int) (ba : Option Addr) (n bc : Nat) : Value := .agg #[.int .i64 p, .int .i64 r, .slice ba n bc]

theorem below_box (w : World) (v0 v1 v2 : Value) : Below w.heap.size w (w.alloc (.cells #[v0, v1, v2] 51)) := (Below.refl _ _).alloc (Nat.le_refl _) _

set_option maxRecDepth 100000 in
theorem l11In_any (p r : Int) (ba : Option Addr) (bc : Nat) (g : List (List Int)) (b : Int) (w : World) (hg : Gr w ba g) :
    Calls Try.prog 133 #[.agg #[.int .i64 p, .int .i64 r, .slice ba g.length bc], .int .i64 b] w fun e w' => e = .returned (.bool (inP g b)) ∧ Below w.heap.size w w' := by
  have hb0 := below_box w (.int .i64 p) (.int .i64 r) (.slice ba g.length bc)
  have hcl : (w.alloc (.cells #[.int .i64 p, .int .i64 r, .slice ba g.length bc] 51)).cell? ⟨w.heap.size, 2, none⟩ = some (.slice ba g.length bc) := cell_of_row _ _ 2 _ _ _ (heap_alloc_new w _)
  have HC := Lib.hid hcl
  have hlen := hg.len
  clear hcl
  go_enter Try.func133, Try.ntmps133
  go_wp2_with fail
  refine (l10Fits_any p r ba bc g _ (hg.later hb0)).mono ?_
  rintro e w1 ⟨rfl, hb1⟩
  have hb01 := hb0.trans (hb1.mono hb0.size)
  have hc2 := cell_later hb1 HC.out
  cases hf : fits g with
  | false =>
    have HF := Lib.hid hf
    clear hf
    go_wp2
    go_ret
    exact ⟨ret_bool (by rw [inP, HF.out]; rfl), hb01⟩
  | true =>
    have HF := Lib.hid hf
    clear hf
    go_wp2_with fail
    refine (l1In_any b 0 ((g.length : Int) - 1) w1).mono ?_
    rintro e w2 ⟨rfl, rfl⟩
    go_wp2
    go_ret
    exact ⟨ret_bool (by rw [inP, HF.out, okN]; rfl), hb01⟩

set_option maxRecDepth 100000 in
set_option maxHeartbeats 1000000 in
theorem specDominates_any (p r : Int) (ba : Option Addr) (bc : Nat) (g : List (List Int)) (a b : Int) (w : World) (hg : Gr w ba g) :
    Calls Try.prog 86 #[.agg #[.int .i64 p, .int .i64 r, .slice ba g.length bc], .int .i64 a, .int .i64 b] w fun e w' => e = .returned (.bool (domP g a b)) ∧ Below w.heap.size w w' := by
  have hb0 := below_box w (.int .i64 p) (.int .i64 r) (.slice ba g.length bc)
  have HC := Lib.hid (heap_alloc_new w (.cells #[.int .i64 p, .int .i64 r, .slice ba g.length bc] 51))
  have hlen := hg.len
  go_enter Try.func86, Try.ntmps86
  go_wp2_with fail
  refine (l11In_any p r ba bc g a _ (hg.later hb0)).mono ?_
  rintro e w1 ⟨rfl, hb1⟩
  have hb01 := hb0.trans (hb1.mono hb0.size)
  have hC1 := (hb1.block w.heap.size (by simp)).trans HC.out
  have hk0 : w1.cell? ⟨w.heap.size, 0, none⟩ = some (.int .i64 p) := cell_of_row _ _ 0 _ _ _ hC1
  have hk1 : w1.cell? ⟨w.heap.size, 1, none⟩ = some (.int .i64 r) := cell_of_row _ _ 1 _ _ _ hC1
  have hk2 : w1.cell? ⟨w.heap.size, 2, none⟩ = some (.slice ba g.length bc) := cell_of_row _ _ 2 _ _ _ hC1
  clear hC1
  cases ha : inP g a with
  | false =>
    have HF := Lib.hid ha
    clear ha
    go_wp2
    go_ret
    exact ⟨ret_bool (by rw [domP, HF.out]; rfl), hb01⟩
  | true =>
    have HA := Lib.hid ha
    clear ha
    go_wp2_with fail
    refine (l11In_any p r ba bc g b _ (hg.later hb01)).mono ?_
    rintro e w2 ⟨rfl, hb2⟩
    have hb02 := hb01.trans (hb2.mono hb01.size)
    have hk0' := cell_later hb2 hk0
    have hk1' := cell_later hb2 hk1
    have hk2' := cell_later hb2 hk2
    clear hk0 hk1 hk2
    cases hb : inP g b with
    | false =>
      have HF := Lib.hid hb
      clear hb
      go_wp2
      go_ret
      exact ⟨ret_bool (by rw [domP, HF.out, Bool.false_and, Bool.and_false]), hb02⟩
    | true =>
      have HB := Lib.hid hb
      clear hb
      obtain ⟨hf, ha0, ha1⟩ := inP_true.1 HA.out
      obtain ⟨_, hb0', hb1'⟩ := inP_true.1 HB.out
      obtain ⟨a, rfl⟩ : ∃ n : Nat, a = (n : Int) := ⟨a.toNat, by omega⟩
      obtain ⟨b, rfl⟩ : ∃ n : Nat, b = (n : Int) := ⟨b.toNat, by omega⟩
      have han : a < g.length := by omega
      have hbn : b < g.length := by omega
      clear ha0 ha1 hb0' hb1'
      go_wp2_with fail
      refine (l11Doms_any g hf p r ba bc w2 (hg.later hb02)).mono ?_
      rintro e w3 ⟨oa, oc, rfl, hM, hb3⟩
      obtain ⟨b1, o1, rb, ro, rc, rfl, c1, c2⟩ := BMat.cell hM.rd han hbn
      have hbF := hb02.trans (hb3.mono hb02.size)
      clear hM
      go_wp2
      go_ret
      exact ⟨ret_bool (by rw [domP, HA.out, HB.out]; simp), hbF⟩

/-! ### the program -/
/-- Is b a block that is reached? -/
noncomputable def hasP (g : List (List Int)) (b : Int) : Bool := okN g.length b && reachB g (-1) b.toNat
set_option maxRecDepth 100000 in
theorem has_nil (b : Int) (w : World) : Calls Try.prog 99 #[.pointer none, .int .i64 b] w fun e w' => e = .returned (.bool false) ∧ Below w.heap.size w w' := by
  go_enter Try.func99, Try.ntmps99
  go_wp2
  go_ret
  exact ⟨rfl, Below.refl _ _⟩
set_option maxRecDepth 100000 in
theorem has_any (p r : Int) (ba : Option Addr) (bc : Nat) (g : List (List Int)) (db : Nat) (oa : Option Addr) (oc sb : Nat) (b : Int) (w : World) (hD : DomsAt w p r ba bc g db oa oc sb) (hlen : g.length ≤ 1048576) :
    Calls Try.prog 99 #[.pointer (some ⟨db, 0, none⟩), .int .i64 b] w fun e w' => e = .returned (.bool (hasP g b)) ∧ Below w.heap.size w w' := by
  have hd4 : w.cell? ⟨db, 4, none⟩ = some (.slice (some ⟨sb, 0, none⟩) g.length g.length) := cell_of_row _ _ 4 _ _ _ hD.blk
  cases hok : okN g.length b with
  | false =>
    have HK := Lib.hid hok
    have d0 : (decide ((0 : Int) ≤ b) && decide (b ≤ (g.length : Int) - 1)) = false := hok
    clear hok
    go_enter Try.func99, Try.ntmps99
    go_wp2_with fail
    refine (within_any b 0 ((g.length : Int) - 1) w).mono ?_
    rw [d0]
    rintro e w1 ⟨rfl, rfl⟩
    clear d0
    go_wp2
    go_ret
    exact ⟨ret_bool (by rw [hasP, HK.out]; rfl), Below.refl _ _⟩
  | true =>
    have HK := Lib.hid hok
    have d0 : (decide ((0 : Int) ≤ b) && decide (b ≤ (g.length : Int) - 1)) = true := hok
    have hr := okN_iff.1 hok
    obtain ⟨b, rfl⟩ : ∃ n : Nat, b = (n : Int) := ⟨b.toNat, by omega⟩
    have hbn : b < g.length := by omega
    obtain ⟨b1, o1, v, hab, hv, hcb⟩ := hD.inn.place hbn
    rw [reachRow_get hbn] at hv
    cases hv
    cases hab
    rw [Nat.zero_add] at hcb
    clear hok hr
    go_enter Try.func99, Try.ntmps99
    go_wp2_with fail
    refine (within_any (b : Int) 0 ((g.length : Int) - 1) w).mono ?_
    rw [d0]
    rintro e w1 ⟨rfl, rfl⟩
    clear d0
    go_wp2
    go_ret
    exact ⟨ret_bool (by rw [hasP, HK.out]; simp), Below.refl _ _⟩

theorem domB_has {g : List (List Int)} {a b : Nat} (h : domB g a b = true) : reachB g (-1) a = true ∧ reachB g (-1) b = true := by
  simp only [domB, Bool.and_eq_true] at h
  exact ⟨h.1, h.2.1⟩
theorem domP_has {g : List (List Int)} {a b : Int} (hf : Fits g) : domP g a b = (hasP g a && (hasP g b && domB g a.toNat b.toNat)) := by
  have hft := fits_iff.2 hf
  simp only [domP, inP, hasP, hft, Bool.true_and]
  cases hd : domB g a.toNat b.toNat with
  | false => simp
  | true =>
    have := domB_has hd
    rw [this.1, this.2]
    simp

set_option maxRecDepth 100000 in
set_option maxHeartbeats 1000000 in
theorem dominates_any (p r : Int) (ba : Option Addr) (bc : Nat) (g : List (List Int)) (hf : Fits g) (db : Nat) (oa : Option Addr) (oc sb : Nat) (a b : Int) (w : World) (hD : DomsAt w p r ba bc g db oa oc sb) (hlen : g.length ≤ 1048576) :
    Calls Try.prog 90 #[.pointer (some ⟨db, 0, none⟩), .int .i64 a, .int .i64 b] w fun e w' => e = .returned (.bool (domP g a b)) ∧ Below w.heap.size w w' := by
  rw [domP_has hf]
  go_enter Try.func90, Try.ntmps90
  go_wp2_with fail
  refine (has_any p r ba bc g db oa oc sb a w hD hlen).mono ?_
  rintro e w1 ⟨rfl, hb1⟩
  have hD1 := hD.later hb1
  cases ha : hasP g a with
  | false =>
    have HA := Lib.hid ha
    clear ha
    go_wp2
    go_ret
    exact ⟨ret_bool (by rw [HA.out]; rfl), hb1⟩
  | true =>
    have HA := Lib.hid ha
    clear ha
    go_wp2_with fail
    refine (has_any p r ba bc g db oa oc sb b w1 hD1 hlen).mono ?_
    rintro e w2 ⟨rfl, hb2⟩
    have hD2 := hD1.later hb2
    have hb02 := hb1.trans (hb2.mono hb1.size)
    cases hb : hasP g b with
    | false =>
      have HB := Lib.hid hb
      clear hb
      go_wp2
      go_ret
      exact ⟨ret_bool (by rw [HB.out, Bool.false_and, Bool.and_false]), hb02⟩
    | true =>
      have HB := Lib.hid hb
      have ha := HA.out
      simp only [hasP, Bool.and_eq_true, okN_iff] at ha hb
      obtain ⟨a, rfl⟩ : ∃ n : Nat, a = (n : Int) := ⟨a.toNat, by omega⟩
      obtain ⟨b, rfl⟩ : ∃ n : Nat, b = (n : Int) := ⟨b.toNat, by omega⟩
      have han : a < g.length := by omega
      have hbn : b < g.length := by omega
      clear ha hb
      have hd3 : w2.cell? ⟨db, 3, none⟩ = some (.slice oa g.length oc) := cell_of_row _ _ 3 _ _ _ hD2.blk
      obtain ⟨b1, o1, rb, ro, rc, rfl, c1, c2⟩ := BMat.cell hD2.over han hbn
      clear hD hD1 hD2 hb1 hb2
      go_wp2
      go_ret
      exact ⟨ret_bool (by rw [HA.out, HB.out]; simp), hb02⟩

theorem dominates_nil (a b : Int) (w : World) :
    Calls Try.prog 90 #[.pointer none, .int .i64 a, .int .i64 b] w fun e w' => e = .returned (.bool false) ∧ Below w.heap.size w w' := by
  go_enter Try.func90, Try.ntmps90
  go_wp2_with fail
  refine (has_nil a w).mono ?_
  rintro e w1 ⟨rfl, hb1⟩
  go_wp2
  go_ret
  exact ⟨rfl, hb1⟩

end Go.Proofs.Ytkhnhdgbbjppeaa
