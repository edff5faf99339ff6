/-
  DoMoves in the program and in the reference: both do the moves one behind the other.
-/
import Derived.Test.YthadaohnanpmiaaMoves
import Derived.StillTailTactics
namespace Go.Proofs.Ythadaohnanpmiaa
open Go.RowKit

/-- The call returned new ints and a word; nothing that was there has changed. -/
def RetIntsOk (w : World) (xs : List Int) (n : Nat) (ok : Bool) (e : Ending) (w' : World) : Prop :=
  ∃ a cap, e = .returned (.tuple #[.slice a n cap, .bool ok]) ∧ w'.ownsRow w.heap.size 3 1 (.slice a n cap) n (xs.map (Value.int .i64)) ∧ Below w.heap.size w w'

theorem doSeq_snoc (xss : List (List Int)) (m : List Int) (vals : List Int) : doSeq (xss ++ [m]) vals = stepSeq (doSeq xss vals) m := by simp [doSeq, List.foldl_append]
theorem fit_row {rows : List Hd} {n k : Nat} {r : Hd} (h : movesFit (rows.map Hd.xs) n = true) (hr : rows[k]? = some r) : ∃ i j : Nat, r.xs = [(i : Int), (j : Int)] ∧ i < n ∧ j < n := by
  simp only [movesFit, movesOk, Bool.and_eq_true, List.all_map, List.all_eq_true] at h
  have hm := List.mem_of_getElem? hr
  obtain ⟨i, j, hij, _, _⟩ := isMove_cases (h.1.2 r hm)
  have hf := h.2 r hm
  simp only [Function.comp, hij, fitsIn, decide_eq_true_eq] at hf
  exact ⟨i, j, hij, by omega, by omega⟩
/-- What the call owns at an index. -/
theorem own_cell {w : World} {base : Nat} {e : TypeId} {a : Option Addr} {n cap : Nat} {xs : List Int} (h : w.ownsRow base e 1 (.slice a n cap) n (xs.map (Value.int .i64))) {i : Nat} (hi : i < n) :
    ∃ g, a = some ⟨g, 0, none⟩ ∧ w.cell? ⟨g, i, none⟩ = some (.int .i64 (xs.getD i 0)) ∧ w.frozen? ⟨g, i, none⟩ = false ∧ base ≤ g := by
  have hlen : xs.length = n := by simpa using h.1
  rcases h.2 with ⟨hv, h0⟩ | ⟨g, cap', cur, hv, hb, _⟩
  · omega
  · simp only [Value.slice.injEq] at hv
    obtain ⟨rfl, _, rfl⟩ := hv
    refine ⟨g, rfl, ?_, h.frozenAt i, hb⟩
    rw [h.cellAt i (by omega), List.getElem?_map, List.getD_eq_getElem?_getD, List.getElem?_eq_getElem (by omega)]
    rfl

set_option maxHeartbeats 1000000 in
theorem implDoMoves_any (a : Option Addr) (len cap : Nat) (rows : List Hd) (a' : Option Addr) (n cap' : Nat) (vals : List Int) (w : World) (hin : MatRd w a len rows) (hin' : IntsAt w a' n cap' vals) (hs : len ≤ 1099511627776) (hn : n ≤ 1099511627776)
    (hfit : movesFit (rows.map Hd.xs) n = true) :
    Calls Try.prog 24 #[.slice a len cap, .slice a' n cap'] w fun e w' => RetIntsOk w (doSeq (rows.map Hd.xs) vals) n true e w' := by
  have HF := Lib.hid hfit
  clear hfit
  have HL := Lib.hid hin.length
  go_enter Try.func24, Try.ntmps24
  go_wp2_with fail
  refine (fitsValues_any a len cap rows n w hin hs).mono ?_
  rw [HF.out]
  rintro e w1 ⟨rfl, hb1⟩
  go_wp2_with fail
  refine (clone_ret a' n cap' vals w1 (hin'.later hb1) hn).mono ?_
  rintro e w2 ⟨a2, c2, rfl, hown2, hb2⟩
  have hb02 : Below w.heap.size w w2 := hb1.trans (hb2.mono hb1.size)
  have hown2 := own_lower (base' := w.heap.size) hown2 (fun k hk => by have := (hown2.lt k hk).1; have := hb1.size; omega)
  clear hb1 hb2
  go_wp2
  go_loopw [18] (fun i wr => ∃ k : Nat, k ≤ len ∧ i = .int .i64 k ∧ Below w.heap.size w wr ∧ wr.ownsRow w.heap.size 3 1 (.slice a2 n c2) n ((doSeq ((rows.take k).map Hd.xs) vals).map (Value.int .i64))) (fun i _ => len - (intOf i).toNat)
  case atStart => exact ⟨0, Nat.zero_le _, rfl, hb02, hown2⟩
  case round =>
    obtain ⟨k, hk, rfl, hbr, hown⟩ := hrel
    clear hown2 hb02
    by_cases hlt : k < len
    · obtain ⟨b, off, ai, ci, xs, rfl, hx, hc, hi⟩ := (hin.later hbr).place hlt
      obtain ⟨i, j, hij, hin1, hjn1⟩ := fit_row HF.out hx
      simp only at hij
      subst hij
      have HT := Lib.hid (take_succ_of hx)
      obtain ⟨bi, oi, rfl, hci, hcj⟩ := two_cells hi
      obtain ⟨g, rfl, hgi, hfi, hgb⟩ := own_cell hown hin1
      obtain ⟨g', hgg, hgj, _, _⟩ := own_cell hown hjn1
      simp only [Option.some.injEq, Addr.mk.injEq, and_true] at hgg
      subst hgg
      have HO := Lib.hid hown
      clear hx hown
      generalize hv : (doSeq ((rows.take k).map Hd.xs) vals).getD j 0 = v at hgj
      generalize (doSeq ((rows.take k).map Hd.xs) vals).getD i 0 = u at hgi
      have HV := Lib.hid hv
      clear hv
      go_wp2
      go_still_tail 11, (by kernel_rfl)
      change wpList _ _ _ _ _ wr.drew
      go_wp2
      go_roundw
      case rel =>
        refine ⟨k + 1, by omega, by go_num, (hbr.setCell hgb _).drew, ?_⟩
        have h1 := (HO.out.stored i (.int .i64 v)).1.drew
        rw [← List.map_set] at h1
        rw [HT.out, List.map_append]
        simp only [List.map_cons, List.map_nil]
        rw [doSeq_snoc]
        have h2 : stepSeq (doSeq ((rows.take k).map Hd.xs) vals) [(i : Int), (j : Int)] = (doSeq ((rows.take k).map Hd.xs) vals).set i v := by
          show List.set _ (Int.toNat (i : Int)) (List.getD _ (Int.toNat (j : Int)) 0) = _
          rw [Int.toNat_natCast, Int.toNat_natCast, HV.out]
        rw [h2]
        exact h1
      case measure => simp [intOf]; omega
    · obtain rfl : k = len := by omega
      have HO := Lib.hid hown
      clear hown
      go_wp2
      go_ret2
      have h1 := HO.out
      rw [List.take_of_length_le (by have := HL.out; omega)] at h1
      exact ⟨_, _, rfl, h1, hbr⟩

theorem implDoMoves_no (a : Option Addr) (len cap : Nat) (rows : List Hd) (a' : Option Addr) (n cap' : Nat) (w : World) (hin : MatRd w a len rows) (hs : len ≤ 1099511627776) (hfit : movesFit (rows.map Hd.xs) n = false) :
    Calls Try.prog 24 #[.slice a len cap, .slice a' n cap'] w fun e w' => RetIntsOk w [] 0 false e w' := by
  have HF := Lib.hid hfit
  clear hfit
  go_enter Try.func24, Try.ntmps24
  go_wp2_with fail
  refine (fitsValues_any a len cap rows n w hin hs).mono ?_
  rw [HF.out]
  rintro e w1 ⟨rfl, hb1⟩
  go_wp2
  go_ret2
  exact ⟨_, _, rfl, World.ownsRow_nil _ _ _ _, hb1⟩

/-! ### the reference -/
set_option maxHeartbeats 1000000 in
theorem l14Ok_any (a : Option Addr) (len cap : Nat) (rows : List Hd) (w : World) (hin : MatRd w a len rows) (hs : len ≤ 1099511627776) :
    Calls Try.prog 53 #[.slice a len cap] w fun e w' => e = .returned (.bool (movesOk (rows.map Hd.xs))) ∧ w = w' := by
  have HL := Lib.hid hin.length
  go_enter Try.func53, Try.ntmps53
  go_wp2
  go_loop [3] (fun i => ∃ k : Nat, k ≤ len ∧ i = .int .i64 k ∧ Hid (∀ j x, j < k → rows[j]? = some x → isMove x.xs = true)) (fun i => len - (intOf i).toNat)
  case atStart => exact ⟨0, Nat.zero_le _, rfl, Lib.hid (fun j x hj => by omega)⟩
  case round =>
    obtain ⟨k, hk, rfl, hno⟩ := hrel
    by_cases hlt : k < len
    · obtain ⟨b, off, ai, ci, xs, rfl, hx, hc, hi⟩ := hin.place hlt
      have HX := Lib.hid hx
      by_cases hm : isMove xs = true
      · obtain ⟨i, j, rfl, hi1, hj1⟩ := isMove_cases hm
        obtain ⟨bi, oi, rfl, hci, hcj⟩ := two_cells hi
        have h2 : (((2 : Nat) : Int) != 2) = false := by simp
        have HM := Lib.hid hm
        clear hx hm
        go_wp2_with fail
        refine (l1In_yes i 0 299 _ (by omega)).mono ?_
        rintro e w1 ⟨rfl, rfl⟩
        go_wp2_with fail
        refine (l1In_yes j 0 299 _ (by omega)).mono ?_
        rintro e w1 ⟨rfl, rfl⟩
        go_wp2
        go_round
        case rel =>
          refine ⟨k + 1, by omega, by go_num, Lib.hid fun q x hq hqx => ?_⟩
          by_cases hqk : q = k
          · subst hqk
            rw [HX.out] at hqx
            cases hqx
            exact HM.out
          · exact hno.out q x (by omega) hqx
        case measure => simp [intOf]; omega
      · have hbad : movesOk (rows.map Hd.xs) = false := by
          rw [movesOk, Bool.and_eq_false_iff]
          right
          rw [List.all_map, List.all_eq_false]
          exact ⟨_, List.mem_of_getElem? hx, by simpa using hm⟩
        have HB := Lib.hid hbad
        by_cases hl : xs.length = 2
        · match xs, hl with
          | [x, y], _ =>
            obtain ⟨bi, oi, rfl, hci, hcj⟩ := two_cells hi
            have h2 : (((2 : Nat) : Int) != 2) = false := by simp
            by_cases hx0 : 0 ≤ x ∧ x ≤ 299
            · have hy0 : ¬ (0 ≤ y ∧ y ≤ 299) := by
                intro hy; apply hm; simp [isMove]; omega
              clear hx hm hbad
              go_wp2_with fail
              refine (l1In_yes x 0 299 _ hx0).mono ?_
              rintro e w1 ⟨rfl, rfl⟩
              go_wp2_with fail
              refine (l1In_no y 0 299 _ hy0).mono ?_
              rintro e w1 ⟨rfl, rfl⟩
              go_wp2
              go_ret
              exact ⟨ret_bool HB.out.symm, rfl⟩
            · clear hx hm hbad
              go_wp2_with fail
              refine (l1In_no x 0 299 _ hx0).mono ?_
              rintro e w1 ⟨rfl, rfl⟩
              go_wp2
              go_ret
              exact ⟨ret_bool HB.out.symm, rfl⟩
        · have h2 : ((xs.length : Int) != 2) = true := by rw [bne_iff_ne]; omega
          clear hx hm hbad hi
          go_wp2
          go_ret
          exact ⟨ret_bool HB.out.symm, rfl⟩
    · obtain rfl : k = len := by omega
      go_wp2
      go_ret
      refine ⟨ret_bool ?_, rfl⟩
      rw [movesOk, List.length_map, HL.out]
      have hall : (rows.map Hd.xs).all isMove = true := by
        rw [List.all_map, List.all_eq_true]
        intro r hr
        obtain ⟨j, hj⟩ := List.getElem?_of_mem hr
        exact hno.out j r (by have := (List.getElem?_eq_some_iff.1 hj).1; have := HL.out; omega) hj
      rw [hall, Bool.and_true, decide_eq_decide]
      omega

def allFit (xss : List (List Int)) (n : Nat) : Bool := xss.all (fitsIn n)
theorem movesFit_eq (xss : List (List Int)) (n : Nat) : movesFit xss n = (movesOk xss && allFit xss n) := rfl

set_option maxHeartbeats 1000000 in
theorem l14Within_any (a : Option Addr) (len cap : Nat) (rows : List Hd) (a' : Option Addr) (n cap' : Nat) (w : World) (hin : MatRd w a len rows) (hs : len ≤ 1099511627776) (hmv : ∀ r ∈ rows, isMove r.xs = true) :
    Calls Try.prog 54 #[.slice a len cap, .slice a' n cap'] w fun e w' => e = .returned (.bool (allFit (rows.map Hd.xs) n)) ∧ w = w' := by
  have HL := Lib.hid hin.length
  go_enter Try.func54, Try.ntmps54
  go_wp2
  go_loop [5] (fun i => ∃ k : Nat, k ≤ len ∧ i = .int .i64 k ∧ Hid (∀ j x, j < k → rows[j]? = some x → fitsIn n x.xs = true)) (fun i => len - (intOf i).toNat)
  case atStart => exact ⟨0, Nat.zero_le _, rfl, Lib.hid (fun j x hj => by omega)⟩
  case round =>
    obtain ⟨k, hk, rfl, hno⟩ := hrel
    by_cases hlt : k < len
    · obtain ⟨b, off, ai, ci, xs, rfl, hx, hc, hi⟩ := hin.place hlt
      have HX := Lib.hid hx
      obtain ⟨i, j, hij, hi1, hj1⟩ := isMove_cases (hmv _ (List.mem_of_getElem? hx))
      simp only at hij
      subst hij
      obtain ⟨bi, oi, rfl, hci, hcj⟩ := two_cells hi
      by_cases hin1 : i < n
      · have hd1 : decide ((n : Int) ≤ (i : Int)) = false := by simp; omega
        by_cases hjn1 : j < n
        · have hd2 : decide ((n : Int) ≤ (j : Int)) = false := by simp; omega
          have hm : fitsIn n [(i : Int), (j : Int)] = true := by simp [fitsIn]; omega
          have HM := Lib.hid hm
          clear hx hm
          go_wp2
          go_round
          case rel =>
            refine ⟨k + 1, by omega, by go_num, Lib.hid fun q x hq hqx => ?_⟩
            by_cases hqk : q = k
            · subst hqk
              rw [HX.out] at hqx
              cases hqx
              exact HM.out
            · exact hno.out q x (by omega) hqx
          case measure => simp [intOf]; omega
        · have hd2 : decide ((n : Int) ≤ (j : Int)) = true := by simp; omega
          have hbad : allFit (rows.map Hd.xs) n = false := by
            rw [allFit, List.all_map, List.all_eq_false]
            exact ⟨_, List.mem_of_getElem? hx, by simp [fitsIn]; omega⟩
          have HB := Lib.hid hbad
          clear hx hbad
          go_wp2
          go_ret
          exact ⟨ret_bool HB.out.symm, rfl⟩
      · have hd1 : decide ((n : Int) ≤ (i : Int)) = true := by simp; omega
        have hbad : allFit (rows.map Hd.xs) n = false := by
          rw [allFit, List.all_map, List.all_eq_false]
          exact ⟨_, List.mem_of_getElem? hx, by simp [fitsIn]; omega⟩
        have HB := Lib.hid hbad
        clear hx hbad
        go_wp2
        go_ret
        exact ⟨ret_bool HB.out.symm, rfl⟩
    · obtain rfl : k = len := by omega
      go_wp2
      go_ret
      refine ⟨ret_bool ?_, rfl⟩
      symm
      rw [allFit, List.all_map, List.all_eq_true]
      intro r hr
      obtain ⟨j, hj⟩ := List.getElem?_of_mem hr
      exact hno.out j r (by have := (List.getElem?_eq_some_iff.1 hj).1; have := HL.out; omega) hj

theorem movesOk_rows {rows : List Hd} (h : movesOk (rows.map Hd.xs) = true) : ∀ r ∈ rows, isMove r.xs = true := by
  intro r hr
  simp only [movesOk, Bool.and_eq_true, List.all_map, List.all_eq_true] at h
  exact h.2 r hr

set_option maxHeartbeats 1000000 in
theorem specDoMoves_no (a : Option Addr) (len cap : Nat) (rows : List Hd) (a' : Option Addr) (n cap' : Nat) (w : World) (hin : MatRd w a len rows) (hs : len ≤ 1099511627776) (hfit : movesFit (rows.map Hd.xs) n = false) :
    Calls Try.prog 25 #[.slice a len cap, .slice a' n cap'] w fun e w' => RetIntsOk w [] 0 false e w' := by
  rw [movesFit_eq] at hfit
  by_cases hok : movesOk (rows.map Hd.xs) = true
  · have hall : allFit (rows.map Hd.xs) n = false := by rw [hok] at hfit; exact hfit
    have HOK := Lib.hid hok
    have HA := Lib.hid hall
    have HM := Lib.hid (movesOk_rows hok)
    clear hfit hok hall
    go_enter Try.func25, Try.ntmps25
    go_wp2_with fail
    refine (l14Ok_any a len cap rows w hin hs).mono ?_
    rw [HOK.out]
    rintro e w1 ⟨rfl, rfl⟩
    go_wp2_with fail
    refine (l14Within_any a len cap rows a' n cap' w hin hs HM.out).mono ?_
    rw [HA.out]
    rintro e w1 ⟨rfl, rfl⟩
    go_wp2
    go_ret2
    exact ⟨_, _, rfl, own_empty _ _ _ _ (Nat.le_refl _), (Below.refl _ _).alloc (Nat.le_refl _) _⟩
  · have hok' : movesOk (rows.map Hd.xs) = false := by simpa using hok
    have HOK := Lib.hid hok'
    clear hfit hok hok'
    go_enter Try.func25, Try.ntmps25
    go_wp2_with fail
    refine (l14Ok_any a len cap rows w hin hs).mono ?_
    rw [HOK.out]
    rintro e w1 ⟨rfl, rfl⟩
    go_wp2
    go_ret2
    exact ⟨_, _, rfl, own_empty _ _ _ _ (Nat.le_refl _), (Below.refl _ _).alloc (Nat.le_refl _) _⟩

set_option maxHeartbeats 1000000 in
theorem specDoMoves_any (a : Option Addr) (len cap : Nat) (rows : List Hd) (a' : Option Addr) (n cap' : Nat) (vals : List Int) (w : World) (hin : MatRd w a len rows) (hin' : IntsAt w a' n cap' vals) (hs : len ≤ 1099511627776) (hn : n ≤ 1099511627776)
    (hfit : movesFit (rows.map Hd.xs) n = true) :
    Calls Try.prog 25 #[.slice a len cap, .slice a' n cap'] w fun e w' => RetIntsOk w (doSeq (rows.map Hd.xs) vals) n true e w' := by
  have HF := Lib.hid hfit
  rw [movesFit_eq, Bool.and_eq_true] at hfit
  have HOK := Lib.hid hfit.1
  have HA := Lib.hid hfit.2
  have HM := Lib.hid (movesOk_rows hfit.1)
  have HL := Lib.hid hin.length
  have hnil : a' = none → cap' = 0 := fun h => by rcases hin'.addr with ⟨_, h2⟩ | ⟨b, off, h2⟩
                                                  · exact h2
                                                  · rw [h] at h2; cases h2
  clear hfit
  go_enter Try.func25, Try.ntmps25
  go_wp2_with fail
  refine (l14Ok_any a len cap rows w hin hs).mono ?_
  rw [HOK.out]
  rintro e w1 ⟨rfl, rfl⟩
  go_wp2_with fail
  refine (l14Within_any a len cap rows a' n cap' w hin hs HM.out).mono ?_
  rw [HA.out]
  rintro e w1 ⟨rfl, rfl⟩
  go_wp2_with (at_builtin; refine app_ints rfl (.tmp 18) (.tmp 19) rfl w.heap.size _ 0 [] rfl (own_empty _ _ _ _ (Nat.le_refl _)) _ n _ vals rfl hin'.length (hin'.row.later ((Below.refl _ _).alloc (Nat.le_refl _) _)) hnil (by omega) (by simp) ?_; intro a2 c2 w2 hown2 hgrow hlies)
  have hb02 : Below w.heap.size w w2 := ((Below.refl _ _).alloc (Nat.le_refl _) _).grown hgrow (by simp) (fun j hj => ((own_empty w w.heap.size 3 1 (Nat.le_refl _)).lt j hj).1)
  simp only [Nat.zero_add, List.nil_append] at hown2
  clear hgrow hlies
  go_wp2
  go_loopw [7] (fun i wr => ∃ k : Nat, k ≤ len ∧ i = .int .i64 k ∧ Below w.heap.size w wr ∧ wr.ownsRow w.heap.size 3 1 (.slice a2 n c2) n ((doSeq ((rows.take k).map Hd.xs) vals).map (Value.int .i64))) (fun i _ => len - (intOf i).toNat)
  case atStart => exact ⟨0, Nat.zero_le _, rfl, hb02, hown2⟩
  case round =>
    obtain ⟨k, hk, rfl, hbr, hown⟩ := hrel
    clear hown2 hb02
    by_cases hlt : k < len
    · obtain ⟨b, off, ai, ci, xs, rfl, hx, hc, hi⟩ := (hin.later hbr).place hlt
      obtain ⟨i, j, hij, hin1, hjn1⟩ := fit_row HF.out hx
      simp only at hij
      subst hij
      have HT := Lib.hid (take_succ_of hx)
      obtain ⟨bi, oi, rfl, hci, hcj⟩ := two_cells hi
      obtain ⟨g, rfl, hgi, hfi, hgb⟩ := own_cell hown hin1
      obtain ⟨g', hgg, hgj, _, _⟩ := own_cell hown hjn1
      simp only [Option.some.injEq, Addr.mk.injEq, and_true] at hgg
      subst hgg
      have HO := Lib.hid hown
      clear hx hown
      generalize hv : (doSeq ((rows.take k).map Hd.xs) vals).getD j 0 = v at hgj
      generalize (doSeq ((rows.take k).map Hd.xs) vals).getD i 0 = u at hgi
      have HV := Lib.hid hv
      clear hv
      go_wp2
      go_still_tail 17, (by kernel_rfl)
      change wpList _ _ _ _ _ wr.drew
      go_wp2
      go_roundw
      case rel =>
        refine ⟨k + 1, by omega, by go_num, (hbr.setCell hgb _).drew, ?_⟩
        have h1 := (HO.out.stored i (.int .i64 v)).1.drew
        rw [← List.map_set] at h1
        rw [HT.out, List.map_append]
        simp only [List.map_cons, List.map_nil]
        rw [doSeq_snoc]
        have h2 : stepSeq (doSeq ((rows.take k).map Hd.xs) vals) [(i : Int), (j : Int)] = (doSeq ((rows.take k).map Hd.xs) vals).set i v := by
          show List.set _ (Int.toNat (i : Int)) (List.getD _ (Int.toNat (j : Int)) 0) = _
          rw [Int.toNat_natCast, Int.toNat_natCast, HV.out]
        rw [h2]
        exact h1
      case measure => simp [intOf]; omega
    · obtain rfl : k = len := by omega
      have HO := Lib.hid hown
      clear hown
      go_wp2
      go_ret2
      have h1 := HO.out
      rw [List.take_of_length_le (by have := HL.out; omega)] at h1
      exact ⟨_, _, rfl, h1, hbr⟩

/-- What both return. -/
def dmRes (xss : List (List Int)) (vals : List Int) : List Int := if movesFit xss vals.length = true then doSeq xss vals else []
theorem implDoMoves_all (a : Option Addr) (len cap : Nat) (rows : List Hd) (a' : Option Addr) (n cap' : Nat) (vals : List Int) (w : World) (hin : MatRd w a len rows) (hin' : IntsAt w a' n cap' vals) (hs : len ≤ 1099511627776) (hn : n ≤ 1099511627776) :
    Calls Try.prog 24 #[.slice a len cap, .slice a' n cap'] w fun e w' => RetIntsOk w (dmRes (rows.map Hd.xs) vals) (dmRes (rows.map Hd.xs) vals).length (movesFit (rows.map Hd.xs) n) e w' := by
  have hl := hin'.length
  by_cases h : movesFit (rows.map Hd.xs) n = true
  · have e : dmRes (rows.map Hd.xs) vals = doSeq (rows.map Hd.xs) vals := by rw [dmRes, hl, if_pos h]
    rw [e, doSeq_length, hl, h]
    exact implDoMoves_any a len cap rows a' n cap' vals w hin hin' hs hn h
  · have e : dmRes (rows.map Hd.xs) vals = [] := by rw [dmRes, hl, if_neg h]
    have h' : movesFit (rows.map Hd.xs) n = false := by simpa using h
    rw [e, h']
    exact implDoMoves_no a len cap rows a' n cap' w hin hs h'
theorem specDoMoves_all (a : Option Addr) (len cap : Nat) (rows : List Hd) (a' : Option Addr) (n cap' : Nat) (vals : List Int) (w : World) (hin : MatRd w a len rows) (hin' : IntsAt w a' n cap' vals) (hs : len ≤ 1099511627776) (hn : n ≤ 1099511627776) :
    Calls Try.prog 25 #[.slice a len cap, .slice a' n cap'] w fun e w' => RetIntsOk w (dmRes (rows.map Hd.xs) vals) (dmRes (rows.map Hd.xs) vals).length (movesFit (rows.map Hd.xs) n) e w' := by
  have hl := hin'.length
  by_cases h : movesFit (rows.map Hd.xs) n = true
  · have e : dmRes (rows.map Hd.xs) vals = doSeq (rows.map Hd.xs) vals := by rw [dmRes, hl, if_pos h]
    rw [e, doSeq_length, hl, h]
    exact specDoMoves_any a len cap rows a' n cap' vals w hin hin' hs hn h
  · have e : dmRes (rows.map Hd.xs) vals = [] := by rw [dmRes, hl, if_neg h]
    have h' : movesFit (rows.map Hd.xs) n = false := by simpa using h
    rw [e, h']
    exact specDoMoves_no a len cap rows a' n cap' w hin hs h'
theorem dmRes_length (xss : List (List Int)) (vals : List Int) : (dmRes xss vals).length ≤ vals.length := by
  unfold dmRes
  split
  · rw [doSeq_length]; exact Nat.le_refl _
  · simp

end Go.Proofs.Ythadaohnanpmiaa
