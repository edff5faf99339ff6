/-
  DoAtOnce in the program and in the reference: both do the moves at once.
-/
import Derived.Test.YthadaohnanpmiaaOnce
namespace Go.Proofs.Ythadaohnanpmiaa
open Go.RowKit

def onceFit (xss : List (List Int)) (n : Nat) : Bool := movesFit xss n && onceOk xss
def daRes (xss : List (List Int)) (vals : List Int) : List Int := if onceFit xss vals.length = true then doAt xss vals else []
theorem daRes_length (xss : List (List Int)) (vals : List Int) : (daRes xss vals).length ≤ vals.length := by
  unfold daRes
  split
  · rw [doAt_length]; exact Nat.le_refl _
  · simp
theorem stepAt_two (vals out : List Int) (i j : Nat) {v : Int} (hv : vals.getD j 0 = v) : stepAt vals out [(i : Int), (j : Int)] = out.set i v := by
  show List.set _ (Int.toNat (i : Int)) (List.getD _ (Int.toNat (j : Int)) 0) = _
  rw [Int.toNat_natCast, Int.toNat_natCast, hv]

set_option maxHeartbeats 1000000 in
theorem implDoAtOnce_yes (a : Option Addr) (len cap : Nat) (rows : List Hd) (a' : Option Addr) (n cap' : Nat) (vals : List Int) (w : World) (hin : MatRd w a len rows) (hin' : IntsAt w a' n cap' vals) (hs : len ≤ 1099511627776) (hn : n ≤ 1099511627776)
    (hfit : movesFit (rows.map Hd.xs) n = true) (honce : onceOk (rows.map Hd.xs) = true) :
    Calls Try.prog 34 #[.slice a len cap, .slice a' n cap'] w fun e w' => RetIntsOk w (doAt (rows.map Hd.xs) vals) n true e w' := by
  have HF := Lib.hid hfit
  have HN := Lib.hid honce
  rw [movesFit_eq, Bool.and_eq_true] at hfit
  have HM := Lib.hid (movesOk_rows hfit.1)
  clear hfit honce
  have HL := Lib.hid hin.length
  go_enter Try.func34, Try.ntmps34
  go_wp2_with fail
  refine (fitsValues_any a len cap rows n w hin hs).mono ?_
  rw [HF.out]
  rintro e w0 ⟨rfl, hb0⟩
  go_wp2_with fail
  refine (atOnce_any a len cap rows w0 (hin.later hb0) hs HM.out).mono ?_
  rw [HN.out]
  rintro e w1 ⟨rfl, hb01⟩
  have hb1 : Below w.heap.size w w1 := hb0.trans (hb01.mono hb0.size)
  clear hb0 hb01
  go_wp2_with fail
  refine (clone_ret a' n cap' vals w1 (hin'.later hb1) hn).mono ?_
  rintro e w2 ⟨a2, c2, rfl, hown2, hb2⟩
  have hb02 : Below w.heap.size w w2 := hb1.trans (hb2.mono hb1.size)
  have hown2 := own_lower (base' := w.heap.size) hown2 (fun k hk => by have := (hown2.lt k hk).1; have := hb1.size; omega)
  clear hb1 hb2
  go_wp2
  go_loopw [23] (fun i wr => ∃ k : Nat, k ≤ len ∧ i = .int .i64 k ∧ Below w.heap.size w wr ∧ wr.ownsRow w.heap.size 3 1 (.slice a2 n c2) n ((doAt ((rows.take k).map Hd.xs) vals).map (Value.int .i64))) (fun i _ => len - (intOf i).toNat)
  case atStart => exact ⟨0, Nat.zero_le _, rfl, hb02, hown2⟩
  case round =>
    obtain ⟨k, hk, rfl, hbr, hown⟩ := hrel
    clear hown2 hb02
    by_cases hlt : k < len
    · obtain ⟨b, off, ai, ci, xs, rfl, hx, hc, hi⟩ := (hin.later hbr).place hlt
      obtain ⟨i, j, hij, hin1, hjn1⟩ := fit_row HF.out hx
      simp only at hij
      subst hij
      have HT := Lib.hid (take_succ_of hx)
      obtain ⟨bi, oi, rfl, hci, hcj⟩ := two_cells hi
      obtain ⟨g, rfl, hgi, hfi, hgb⟩ := own_cell hown hin1
      obtain ⟨bv, ov, v, rfl, hv, hcv⟩ := (hin'.later hbr).place hjn1
      have HO := Lib.hid hown
      clear hx hown
      generalize (doAt ((rows.take k).map Hd.xs) vals).getD i 0 = u at hgi
      have HV : Hid (vals.getD j 0 = v) := Lib.hid (by rw [List.getD_eq_getElem?_getD, hv]; rfl)
      clear hv
      go_wp2
      go_still_tail 11, (by kernel_rfl)
      change wpList _ _ _ _ _ wr.drew
      go_wp2
      go_roundw
      case rel =>
        refine ⟨k + 1, by omega, by go_num, (hbr.setCell hgb _).drew, ?_⟩
        have h1 := (HO.out.stored i (.int .i64 v)).1.drew
        rw [← List.map_set] at h1
        rw [HT.out, List.map_append]
        simp only [List.map_cons, List.map_nil]
        rw [doAt_snoc, stepAt_two vals _ i j HV.out]
        exact h1
      case measure => simp [intOf]; omega
    · obtain rfl : k = len := by omega
      have HO := Lib.hid hown
      clear hown
      go_wp2
      go_ret2
      have h1 := HO.out
      rw [List.take_of_length_le (by have := HL.out; omega)] at h1
      exact ⟨_, _, rfl, h1, hbr⟩

theorem implDoAtOnce_no (a : Option Addr) (len cap : Nat) (rows : List Hd) (a' : Option Addr) (n cap' : Nat) (w : World) (hin : MatRd w a len rows) (hs : len ≤ 1099511627776) (hfit : onceFit (rows.map Hd.xs) n = false) :
    Calls Try.prog 34 #[.slice a len cap, .slice a' n cap'] w fun e w' => RetIntsOk w [] 0 false e w' := by
  by_cases hf : movesFit (rows.map Hd.xs) n = true
  · have honce : onceOk (rows.map Hd.xs) = false := by rw [onceFit, hf] at hfit; exact hfit
    have HF := Lib.hid hf
    have HN := Lib.hid honce
    rw [movesFit_eq, Bool.and_eq_true] at hf
    have HM := Lib.hid (movesOk_rows hf.1)
    clear hf hfit honce
    go_enter Try.func34, Try.ntmps34
    go_wp2_with fail
    refine (fitsValues_any a len cap rows n w hin hs).mono ?_
    rw [HF.out]
    rintro e w0 ⟨rfl, hb0⟩
    go_wp2_with fail
    refine (atOnce_any a len cap rows w0 (hin.later hb0) hs HM.out).mono ?_
    rw [HN.out]
    rintro e w1 ⟨rfl, hb01⟩
    have hb1 : Below w.heap.size w w1 := hb0.trans (hb01.mono hb0.size)
    go_wp2
    go_ret2
    exact ⟨_, _, rfl, World.ownsRow_nil _ _ _ _, hb1⟩
  · have hf' : movesFit (rows.map Hd.xs) n = false := by simpa using hf
    have HF := Lib.hid hf'
    clear hf hf' hfit
    go_enter Try.func34, Try.ntmps34
    go_wp2_with fail
    refine (fitsValues_any a len cap rows n w hin hs).mono ?_
    rw [HF.out]
    rintro e w1 ⟨rfl, hb1⟩
    go_wp2
    go_ret2
    exact ⟨_, _, rfl, World.ownsRow_nil _ _ _ _, hb1⟩

/-! ### the reference -/
theorem onceFit_eq (xss : List (List Int)) (n : Nat) : onceFit xss n = (onceAll xss && allFit xss n) := by
  rw [onceFit, movesFit_eq, onceAll]
  cases movesOk xss <;> cases allFit xss n <;> cases onceOk xss <;> rfl

set_option maxHeartbeats 1000000 in
theorem specDoAtOnce_no (a : Option Addr) (len cap : Nat) (rows : List Hd) (a' : Option Addr) (n cap' : Nat) (w : World) (hin : MatRd w a len rows) (hs : len ≤ 1099511627776) (hfit : onceFit (rows.map Hd.xs) n = false) :
    Calls Try.prog 35 #[.slice a len cap, .slice a' n cap'] w fun e w' => RetIntsOk w [] 0 false e w' := by
  rw [onceFit_eq] at hfit
  by_cases hok : onceAll (rows.map Hd.xs) = true
  · have hall : allFit (rows.map Hd.xs) n = false := by rw [hok] at hfit; exact hfit
    have HOK := Lib.hid hok
    have HA := Lib.hid hall
    rw [onceAll, Bool.and_eq_true] at hok
    have HM := Lib.hid (movesOk_rows hok.1)
    clear hfit hok hall
    go_enter Try.func35, Try.ntmps35
    go_wp2_with fail
    refine (l14Once_any a len cap rows w hin hs).mono ?_
    rw [HOK.out]
    rintro e w1 ⟨rfl, hq1⟩
    have hin1 := hin.quiet hq1
    have hb1 : Below w.heap.size w w1 := by obtain ⟨m, rfl⟩ := hq1; exact below_drewN (Below.refl _ _) m
    clear hq1
    go_wp2_with fail
    refine (l14Within_any a len cap rows a' n cap' w1 hin1 hs HM.out).mono ?_
    rw [HA.out]
    rintro e w2 ⟨rfl, rfl⟩
    go_wp2
    go_ret2
    exact ⟨_, _, rfl, own_empty _ _ _ _ hb1.size, hb1.alloc hb1.size _⟩
  · have hok' : onceAll (rows.map Hd.xs) = false := by simpa using hok
    have HOK := Lib.hid hok'
    clear hfit hok hok'
    go_enter Try.func35, Try.ntmps35
    go_wp2_with fail
    refine (l14Once_any a len cap rows w hin hs).mono ?_
    rw [HOK.out]
    rintro e w1 ⟨rfl, hq1⟩
    have hb1 : Below w.heap.size w w1 := by obtain ⟨m, rfl⟩ := hq1; exact below_drewN (Below.refl _ _) m
    clear hq1
    go_wp2
    go_ret2
    exact ⟨_, _, rfl, own_empty _ _ _ _ hb1.size, hb1.alloc hb1.size _⟩

set_option maxHeartbeats 1000000 in
theorem specDoAtOnce_yes (a : Option Addr) (len cap : Nat) (rows : List Hd) (a' : Option Addr) (n cap' : Nat) (vals : List Int) (w : World) (hin : MatRd w a len rows) (hin' : IntsAt w a' n cap' vals) (hs : len ≤ 1099511627776) (hn : n ≤ 1099511627776)
    (hfit : onceFit (rows.map Hd.xs) n = true) :
    Calls Try.prog 35 #[.slice a len cap, .slice a' n cap'] w fun e w' => RetIntsOk w (doAt (rows.map Hd.xs) vals) n true e w' := by
  have hfit0 := hfit
  rw [onceFit, Bool.and_eq_true] at hfit0
  have HF := Lib.hid hfit0.1
  rw [onceFit_eq, Bool.and_eq_true] at hfit
  have HOK := Lib.hid hfit.1
  have HA := Lib.hid hfit.2
  have hok := hfit.1
  rw [onceAll, Bool.and_eq_true] at hok
  have HM := Lib.hid (movesOk_rows hok.1)
  have HL := Lib.hid hin.length
  clear hfit hfit0 hok
  go_enter Try.func35, Try.ntmps35
  go_wp2_with fail
  refine (l14Once_any a len cap rows w hin hs).mono ?_
  rw [HOK.out]
  rintro e w1 ⟨rfl, hq1⟩
  have hin1 := hin.quiet hq1
  have hb1 : Below w.heap.size w w1 := by obtain ⟨m, rfl⟩ := hq1; exact below_drewN (Below.refl _ _) m
  have hbs1 := hb1.size
  have hin1' := hin'.later hb1
  have hnil : a' = none → cap' = 0 := fun h => by
    rcases hin1'.addr with ⟨_, h2⟩ | ⟨b, off, h2⟩
    · exact h2
    · rw [h] at h2; cases h2
  clear hq1
  go_wp2_with fail
  refine (l14Within_any a len cap rows a' n cap' w1 hin1 hs HM.out).mono ?_
  rw [HA.out]
  rintro e w2 ⟨rfl, rfl⟩
  go_wp2_with (at_builtin; refine app_ints rfl (.tmp 18) (.tmp 19) rfl w.heap.size _ 0 [] rfl (own_empty _ _ _ _ hbs1) _ n _ vals rfl hin1'.length (hin1'.row.later ((Below.refl _ _).alloc (Nat.le_refl _) _)) hnil (by omega) (by simp; omega) ?_; intro a2 c2 w2 hown2 hgrow hlies)
  have hb02 : Below w.heap.size w w2 := (hb1.alloc hbs1 _).grown hgrow (by simp; omega) (fun j hj => ((own_empty w1 w.heap.size 3 1 hbs1).lt j hj).1)
  simp only [Nat.zero_add, List.nil_append] at hown2
  clear hgrow hlies hin1 hin1' hb1 hbs1
  go_wp2
  go_loopw [7] (fun i wr => ∃ k : Nat, k ≤ len ∧ i = .int .i64 k ∧ Below w.heap.size w wr ∧ wr.ownsRow w.heap.size 3 1 (.slice a2 n c2) n ((doAt ((rows.take k).map Hd.xs) vals).map (Value.int .i64))) (fun i _ => len - (intOf i).toNat)
  case atStart => exact ⟨0, Nat.zero_le _, rfl, hb02, hown2⟩
  case round =>
    obtain ⟨k, hk, rfl, hbr, hown⟩ := hrel
    clear hown2 hb02
    by_cases hlt : k < len
    · obtain ⟨b, off, ai, ci, xs, rfl, hx, hc, hi⟩ := (hin.later hbr).place hlt
      obtain ⟨i, j, hij, hin1, hjn1⟩ := fit_row HF.out hx
      simp only at hij
      subst hij
      have HT := Lib.hid (take_succ_of hx)
      obtain ⟨bi, oi, rfl, hci, hcj⟩ := two_cells hi
      obtain ⟨g, rfl, hgi, hfi, hgb⟩ := own_cell hown hin1
      obtain ⟨bv, ov, v, rfl, hv, hcv⟩ := (hin'.later hbr).place hjn1
      have HO := Lib.hid hown
      clear hx hown
      generalize (doAt ((rows.take k).map Hd.xs) vals).getD i 0 = u at hgi
      have HV : Hid (vals.getD j 0 = v) := Lib.hid (by rw [List.getD_eq_getElem?_getD, hv]; rfl)
      clear hv hnil
      go_wp2
      go_still_tail 17, (by kernel_rfl)
      change wpList _ _ _ _ _ wr.drew
      go_wp2
      go_roundw
      case rel =>
        refine ⟨k + 1, by omega, by go_num, (hbr.setCell hgb _).drew, ?_⟩
        have h1 := (HO.out.stored i (.int .i64 v)).1.drew
        rw [← List.map_set] at h1
        rw [HT.out, List.map_append]
        simp only [List.map_cons, List.map_nil]
        rw [doAt_snoc, stepAt_two vals _ i j HV.out]
        exact h1
      case measure => simp [intOf]; omega
    · obtain rfl : k = len := by omega
      have HO := Lib.hid hown
      clear hown
      go_wp2
      go_ret2
      have h1 := HO.out
      rw [List.take_of_length_le (by have := HL.out; omega)] at h1
      exact ⟨_, _, rfl, h1, hbr⟩

theorem implDoAtOnce_all (a : Option Addr) (len cap : Nat) (rows : List Hd) (a' : Option Addr) (n cap' : Nat) (vals : List Int) (w : World) (hin : MatRd w a len rows) (hin' : IntsAt w a' n cap' vals) (hs : len ≤ 1099511627776) (hn : n ≤ 1099511627776) :
    Calls Try.prog 34 #[.slice a len cap, .slice a' n cap'] w fun e w' => RetIntsOk w (daRes (rows.map Hd.xs) vals) (daRes (rows.map Hd.xs) vals).length (onceFit (rows.map Hd.xs) n) e w' := by
  have hl := hin'.length
  by_cases h : onceFit (rows.map Hd.xs) n = true
  · have e : daRes (rows.map Hd.xs) vals = doAt (rows.map Hd.xs) vals := by rw [daRes, hl, if_pos h]
    rw [e, doAt_length, hl, h]
    rw [onceFit, Bool.and_eq_true] at h
    exact implDoAtOnce_yes a len cap rows a' n cap' vals w hin hin' hs hn h.1 h.2
  · have e : daRes (rows.map Hd.xs) vals = [] := by rw [daRes, hl, if_neg h]
    have h' : onceFit (rows.map Hd.xs) n = false := by simpa using h
    rw [e, h']
    exact implDoAtOnce_no a len cap rows a' n cap' w hin hs h'
theorem specDoAtOnce_all (a : Option Addr) (len cap : Nat) (rows : List Hd) (a' : Option Addr) (n cap' : Nat) (vals : List Int) (w : World) (hin : MatRd w a len rows) (hin' : IntsAt w a' n cap' vals) (hs : len ≤ 1099511627776) (hn : n ≤ 1099511627776) :
    Calls Try.prog 35 #[.slice a len cap, .slice a' n cap'] w fun e w' => RetIntsOk w (daRes (rows.map Hd.xs) vals) (daRes (rows.map Hd.xs) vals).length (onceFit (rows.map Hd.xs) n) e w' := by
  have hl := hin'.length
  by_cases h : onceFit (rows.map Hd.xs) n = true
  · have e : daRes (rows.map Hd.xs) vals = doAt (rows.map Hd.xs) vals := by rw [daRes, hl, if_pos h]
    rw [e, doAt_length, hl, h]
    exact specDoAtOnce_yes a len cap rows a' n cap' vals w hin hin' hs hn h
  · have e : daRes (rows.map Hd.xs) vals = [] := by rw [daRes, hl, if_neg h]
    have h' : onceFit (rows.map Hd.xs) n = false := by simpa using h
    rw [e, h']
    exact specDoAtOnce_no a len cap rows a' n cap' w hin hs h'

end Go.Proofs.Ythadaohnanpmiaa
