
/-
  UsesIn, the reference's and the program's.
-/
import Derived.Test.YtkhnhdgbbjppeaaUsesImpl
namespace Go.Proofs.Ytkhnhdgbbjppeaa
open Go.RowKit

def regsAt (us : List CodeD) (k : Int) : Int := ((us[k.toNat]?).map (·.regs)).getD 0
/-- The unit is valid, and has a register r of a code k. -/
def regB (us : List CodeD) (k r : Int) : Bool := hasB us k && inR (regsAt us k) r
theorem code_jumps {us : List CodeD} {k : Nat} {c : CodeD} (h : codeB us k c = true) : ∀ x ∈ c.blocks, x.jump = 1 ∨ x.jump = 2 ∨ x.jump = 3 := by
  intro x hx
  obtain ⟨b, hb⟩ := List.getElem?_of_mem hx
  have h1 := code_block h hb
  rw [blockB, Bool.and_eq_true, Bool.and_eq_true, Bool.and_eq_true, jumpB, Bool.and_eq_true] at h1
  have h2 := h1.1.1.1.1
  unfold nextN at h2
  by_cases e1 : x.jump = 1
  · exact .inl e1
  · by_cases e2 : x.jump = 2
    · exact .inr (.inl e2)
    · by_cases e3 : x.jump = 3
      · exact .inr (.inr e3)
      · rw [if_neg e1, if_neg e2, if_neg e3] at h2
        simp at h2
theorem usesP_of {us : List CodeD} {k : Nat} {c : CodeD} {r : Int} (hv : hasB us (k : Int) = true) (hx : us[k]? = some c) (hr : inR c.regs r = true) : usesP us k r = (bumps c.regs.toNat (codeArgs c)).getD r.toNat 0 := by
  rw [usesP, if_pos hv, Int.toNat_natCast, hx]; simp [hr]
theorem usesP_not {us : List CodeD} {k r : Int} (h : regB us k r = false) : usesP us k r = -1 := by
  unfold usesP
  by_cases hv : hasB us k = true
  · rw [if_pos hv]
    rw [regB, hv, Bool.true_and, regsAt] at h
    cases hx : us[k.toNat]? with
    | none => rfl
    | some c => rw [hx] at h; simp at h; simp [h]
  · rw [if_neg hv]

set_option maxRecDepth 100000 in
theorem regAt_any (us : List CodeD) (ua : Option Addr) (uc : Nat) (k r : Int) (hsz : szS szCodeD us ≤ 1048576) (w : World) (hU : SliceRd 3 CodeR w ua us.length us) :
    Calls Try.prog 57 #[.agg #[.slice ua us.length uc], .int .i64 k, .int .i64 r] w fun e w' => e = .returned (.bool (regB us k r)) ∧ Below w.heap.size w w' := by
  have hb0 : Below w.heap.size w (w.alloc (.cells #[.slice ua us.length uc] 29)) := (Below.refl _ _).alloc (Nat.le_refl _) _
  have hrow := heap_alloc_new w (.cells #[.slice ua us.length uc] 29)
  have hc0 : (w.alloc (.cells #[.slice ua us.length uc] 29)).cell? ⟨w.heap.size, 0, none⟩ = some (.slice ua us.length uc) := cell_of_row _ _ 0 _ _ _ hrow
  have hn2 : us.length ≤ 1048576 := Nat.le_trans (szS_len szCodeD us) hsz
  have HC := Lib.hid (And.intro (codeAt_any us ua uc k hsz _ (hU.later codeR_lasts hb0)) (And.intro hb0 hU))
  clear hU hrow
  go_enter Try.func57, Try.ntmps57
  go_wp2_with fail
  refine HC.out.1.mono ?_
  cases hv : hasB us k with
  | false =>
    have HN := Lib.hid (show regB us k r = false by rw [regB, hv]; rfl)
    clear hv
    rintro e w1 ⟨rfl, hb1⟩
    have hc1 := cell_later hb1 hc0
    go_wp2
    go_ret
    exact ⟨ret_bool HN.out.symm, HC.out.2.1.trans (hb1.mono HC.out.2.1.size)⟩
  | true =>
    obtain ⟨hu, h0, hl⟩ := hasB_true.1 hv
    obtain ⟨m, rfl⟩ : ∃ m : Nat, k = (m : Int) := ⟨k.toNat, by omega⟩
    have hm : m < us.length := by omega
    have hmi : (m : Int) < (us.length : Int) := hl
    rintro e w1 ⟨rfl, hb1⟩
    have hc1 := cell_later hb1 hc0
    have HB1 := Lib.hid (HC.out.2.1.trans (hb1.mono HC.out.2.1.size))
    have hU1 := HC.out.2.2.later codeR_lasts HB1.out
    obtain ⟨b1, o1, params, regs, blocks, ba, bc, rfl, hx, c0, c1, c2, hCR⟩ := code_place hU1 hm
    have hlim := (code_lims (unit_code hu hx)).1
    have hlim : 0 ≤ regs ∧ regs ≤ 300 := hlim
    have HN := Lib.hid (show regB us (m : Int) r = inR regs r by rw [regB, hv, regsAt, Int.toNat_natCast, hx]; rfl)
    clear hb1 hc0 hb0 hv hu h0 hl hU1 hx hCR c0 c2
    go_wp2_with fail
    refine (within_is (show (decide (0 ≤ r) && decide (r ≤ regs - 1)) = inR regs r from rfl) _).mono ?_
    rintro e w2 ⟨rfl, rfl⟩
    go_wp2
    go_ret
    exact ⟨ret_bool HN.out.symm, HB1.out⟩

set_option maxRecDepth 100000 in
theorem l13Reg_any (us : List CodeD) (ua : Option Addr) (uc : Nat) (k r : Int) (hsz : szS szCodeD us ≤ 1048576) (w : World) (hU : SliceRd 3 CodeR w ua us.length us) :
    Calls Try.prog 54 #[.agg #[.slice ua us.length uc], .int .i64 k, .int .i64 r] w fun e w' => e = .returned (.bool (regB us k r)) ∧ Below w.heap.size w w' := by
  have hb0 : Below w.heap.size w (w.alloc (.cells #[.slice ua us.length uc] 29)) := (Below.refl _ _).alloc (Nat.le_refl _) _
  have hrow := heap_alloc_new w (.cells #[.slice ua us.length uc] 29)
  have hc0 : (w.alloc (.cells #[.slice ua us.length uc] 29)).cell? ⟨w.heap.size, 0, none⟩ = some (.slice ua us.length uc) := cell_of_row _ _ 0 _ _ _ hrow
  have hn2 : us.length ≤ 1048576 := Nat.le_trans (szS_len szCodeD us) hsz
  have HC := Lib.hid (And.intro (l12Has_any us ua uc k hsz _ (hU.later codeR_lasts hb0)) (And.intro hb0 hU))
  clear hU hrow
  go_enter Try.func54, Try.ntmps54
  go_wp2_with fail
  refine HC.out.1.mono ?_
  cases hv : hasB us k with
  | false =>
    have HN := Lib.hid (show regB us k r = false by rw [regB, hv]; rfl)
    clear hv
    rintro e w1 ⟨rfl, hb1⟩
    have hc1 := cell_later hb1 hc0
    go_wp2
    go_ret
    exact ⟨ret_bool HN.out.symm, HC.out.2.1.trans (hb1.mono HC.out.2.1.size)⟩
  | true =>
    obtain ⟨hu, h0, hl⟩ := hasB_true.1 hv
    obtain ⟨m, rfl⟩ : ∃ m : Nat, k = (m : Int) := ⟨k.toNat, by omega⟩
    have hm : m < us.length := by omega
    have hmi : (m : Int) < (us.length : Int) := hl
    rintro e w1 ⟨rfl, hb1⟩
    have hc1 := cell_later hb1 hc0
    have HB1 := Lib.hid (HC.out.2.1.trans (hb1.mono HC.out.2.1.size))
    have hU1 := HC.out.2.2.later codeR_lasts HB1.out
    obtain ⟨b1, o1, params, regs, blocks, ba, bc, rfl, hx, c0, c1, c2, hCR⟩ := code_place hU1 hm
    have hlim := (code_lims (unit_code hu hx)).1
    have hlim : 0 ≤ regs ∧ regs ≤ 300 := hlim
    have HN := Lib.hid (show regB us (m : Int) r = inR regs r by rw [regB, hv, regsAt, Int.toNat_natCast, hx]; rfl)
    clear hb1 hc0 hb0 hv hu h0 hl hU1 hx hCR c0 c2
    go_wp2_with fail
    refine (l1In_is (show (decide (0 ≤ r) && decide (r ≤ regs - 1)) = inR regs r from rfl) _).mono ?_
    rintro e w2 ⟨rfl, rfl⟩
    go_wp2
    go_ret
    exact ⟨ret_bool HN.out.symm, HB1.out⟩

set_option maxRecDepth 100000 in
theorem implUsesIn_any (us : List CodeD) (ua : Option Addr) (uc : Nat) (k r : Int) (hsz : szS szCodeD us ≤ 1048576) (w : World) (hU : SliceRd 3 CodeR w ua us.length us) :
    Calls Try.prog 18 #[.agg #[.slice ua us.length uc], .int .i64 k, .int .i64 r] w fun e w' => e = .returned (.int .i64 (usesP us k r)) ∧ Below w.heap.size w w' := by
  have hb0 : Below w.heap.size w (w.alloc (.cells #[.slice ua us.length uc] 29)) := (Below.refl _ _).alloc (Nat.le_refl _) _
  have hrow := heap_alloc_new w (.cells #[.slice ua us.length uc] 29)
  have hc0 : (w.alloc (.cells #[.slice ua us.length uc] 29)).cell? ⟨w.heap.size, 0, none⟩ = some (.slice ua us.length uc) := cell_of_row _ _ 0 _ _ _ hrow
  have hn2 : us.length ≤ 1048576 := Nat.le_trans (szS_len szCodeD us) hsz
  have HC := Lib.hid (And.intro (regAt_any us ua uc k r hsz _ (hU.later codeR_lasts hb0)) (And.intro hb0 (And.intro hU hsz)))
  clear hU hrow
  go_enter Try.func18, Try.ntmps18
  go_wp2_with fail
  refine HC.out.1.mono ?_
  cases hv : regB us k r with
  | false =>
    have HN := Lib.hid (usesP_not hv)
    clear hv
    rintro e w1 ⟨rfl, hb1⟩
    have HB1 := Lib.hid (HC.out.2.1.trans (hb1.mono HC.out.2.1.size))
    clear hb1
    go_wp2
    go_ret
    exact ⟨ret_int HN.out.symm, HB1.out⟩
  | true =>
    have hv2 := hv
    rw [regB, Bool.and_eq_true] at hv2
    obtain ⟨hu, h0, hl⟩ := hasB_true.1 hv2.1
    obtain ⟨m, rfl⟩ : ∃ m : Nat, k = (m : Int) := ⟨k.toNat, by omega⟩
    have hm : m < us.length := by omega
    have hmi : (m : Int) < (us.length : Int) := hl
    rintro e w1 ⟨rfl, hb1⟩
    have hc1 := cell_later hb1 hc0
    have HB1 := Lib.hid (HC.out.2.1.trans (hb1.mono HC.out.2.1.size))
    have hU1 := HC.out.2.2.1.later codeR_lasts HB1.out
    obtain ⟨b1, o1, params, regs, blocks, ba, bc, rfl, hx, c0, c1, c2, hCR⟩ := code_place hU1 hm
    have hcb := unit_code hu hx
    have hin : inR regs r = true := by have h := hv2.2; rw [regsAt, Int.toNat_natCast, hx] at h; exact h
    have HN := Lib.hid (usesP_of hv2.1 hx hin)
    obtain ⟨hr0, hr1⟩ := inR_iff.1 hin
    have hlim := (code_lims hcb).1
    have hlim : 0 ≤ regs ∧ regs ≤ 300 := hlim
    obtain ⟨rn, rfl⟩ : ∃ rn : Nat, r = (rn : Int) := ⟨r.toNat, by omega⟩
    obtain ⟨n, rfl⟩ : ∃ n : Nat, regs = (n : Int) := ⟨regs.toNat, by omega⟩
    have hrn : rn < n := by omega
    have hz := (szS_get (sz := szCodeD) HC.out.2.2.2 hx).1
    have HP := Lib.hid (usesIn_any _ ⟨params, (n : Int), blocks⟩ w1 hCR hz hlim (code_args hcb) (code_jumps hcb))
    clear hb1 hc0 hb0 hv hv2 hu h0 hl hU1 hx hCR hz hcb hin hr0 hlim
    go_wp2_with fail
    refine HP.out.mono ?_
    rintro e w2 ⟨a2, cap2, rfl, hown2, hb2⟩
    have HB2 := Lib.hid (HB1.out.trans (hb2.mono HB1.out.size))
    obtain ⟨b3, o3, x, rfl, hx3, hc3⟩ := (ints_of_own hown2).toIntsRd.place (show rn < n from hrn)
    have HX := Lib.hid (show usesP us (m : Int) (rn : Int) = x by rw [HN.out]; simp only [Int.toNat_natCast] at hx3 ⊢; rw [List.getD_eq_getElem?_getD, hx3]; rfl)
    clear hb2 hown2 hx3 HP
    go_wp2
    go_ret
    exact ⟨ret_int HX.out.symm, HB2.out⟩

set_option maxRecDepth 100000 in
theorem specUsesIn_any (us : List CodeD) (ua : Option Addr) (uc : Nat) (k r : Int) (hsz : szS szCodeD us ≤ 1048576) (w : World) (hU : SliceRd 3 CodeR w ua us.length us) :
    Calls Try.prog 16 #[.agg #[.slice ua us.length uc], .int .i64 k, .int .i64 r] w fun e w' => e = .returned (.int .i64 (usesP us k r)) ∧ Below w.heap.size w w' := by
  have hb0 : Below w.heap.size w (w.alloc (.cells #[.slice ua us.length uc] 29)) := (Below.refl _ _).alloc (Nat.le_refl _) _
  have hrow := heap_alloc_new w (.cells #[.slice ua us.length uc] 29)
  have hc0 : (w.alloc (.cells #[.slice ua us.length uc] 29)).cell? ⟨w.heap.size, 0, none⟩ = some (.slice ua us.length uc) := cell_of_row _ _ 0 _ _ _ hrow
  have hn2 : us.length ≤ 1048576 := Nat.le_trans (szS_len szCodeD us) hsz
  have HC := Lib.hid (And.intro (l13Reg_any us ua uc k r hsz _ (hU.later codeR_lasts hb0)) (And.intro hb0 (And.intro hU hsz)))
  clear hU hrow
  go_enter Try.func16, Try.ntmps16
  go_wp2_with fail
  refine HC.out.1.mono ?_
  cases hv : regB us k r with
  | false =>
    have HN := Lib.hid (usesP_not hv)
    clear hv
    rintro e w1 ⟨rfl, hb1⟩
    have HB1 := Lib.hid (HC.out.2.1.trans (hb1.mono HC.out.2.1.size))
    clear hb1
    go_wp2
    go_ret
    exact ⟨ret_int HN.out.symm, HB1.out⟩
  | true =>
    have hv2 := hv
    rw [regB, Bool.and_eq_true] at hv2
    obtain ⟨hu, h0, hl⟩ := hasB_true.1 hv2.1
    obtain ⟨m, rfl⟩ : ∃ m : Nat, k = (m : Int) := ⟨k.toNat, by omega⟩
    have hm : m < us.length := by omega
    have hmi : (m : Int) < (us.length : Int) := hl
    rintro e w1 ⟨rfl, hb1⟩
    have hc1 := cell_later hb1 hc0
    have HB1 := Lib.hid (HC.out.2.1.trans (hb1.mono HC.out.2.1.size))
    have hU1 := HC.out.2.2.1.later codeR_lasts HB1.out
    obtain ⟨b1, o1, params, regs, blocks, ba, bc, rfl, hx, c0, c1, c2, hCR⟩ := code_place hU1 hm
    have hcb := unit_code hu hx
    have hin : inR regs r = true := by have h := hv2.2; rw [regsAt, Int.toNat_natCast, hx] at h; exact h
    have HN := Lib.hid (usesP_of hv2.1 hx hin)
    obtain ⟨hr0, hr1⟩ := inR_iff.1 hin
    have hlim := (code_lims hcb).1
    have hlim : 0 ≤ regs ∧ regs ≤ 300 := hlim
    obtain ⟨rn, rfl⟩ : ∃ rn : Nat, r = (rn : Int) := ⟨r.toNat, by omega⟩
    obtain ⟨n, rfl⟩ : ∃ n : Nat, regs = (n : Int) := ⟨regs.toNat, by omega⟩
    have hrn : rn < n := by omega
    have hz := (szS_get (sz := szCodeD) HC.out.2.2.2 hx).1
    have HP := Lib.hid (l13Uses_any _ ⟨params, (n : Int), blocks⟩ w1 hCR hz hlim (code_args hcb) (code_jumps hcb))
    clear hb1 hc0 hb0 hv hv2 hu h0 hl hU1 hx hCR hz hcb hin hr0 hlim
    go_wp2_with fail
    refine HP.out.mono ?_
    rintro e w2 ⟨a2, cap2, rfl, hown2, hb2⟩
    have HB2 := Lib.hid (HB1.out.trans (hb2.mono HB1.out.size))
    obtain ⟨b3, o3, x, rfl, hx3, hc3⟩ := (ints_of_own hown2).toIntsRd.place (show rn < n from hrn)
    have HX := Lib.hid (show usesP us (m : Int) (rn : Int) = x by rw [HN.out]; simp only [Int.toNat_natCast] at hx3 ⊢; rw [List.getD_eq_getElem?_getD, hx3]; rfl)
    clear hb2 hown2 hx3 HP
    go_wp2
    go_ret
    exact ⟨ret_int HX.out.symm, HB2.out⟩

end Go.Proofs.Ytkhnhdgbbjppeaa
