/-
  MovesNeeded, in the program (for a list that leaves a register unnamed) and in the reference: the walks.
-/
import Derived.Test.YthadaohnanpmiaaChase
import Derived.Test.YthadaohnanpmiaaExOrder
namespace Go.Proofs.Ythadaohnanpmiaa
open Go.RowKit

theorem ordInv_big {xss : List (List Int)} (hm : ∀ x ∈ xss, isMove x = true) : OrdInv 300 (pairs xss) := by
  intro m h
  have := pairs_mem hm h
  omega
theorem specNeeded_any (a : Option Addr) (len cap : Nat) (rows : List Hd) (w : World) (hin : MatRd w a len rows) (hs : len ≤ 1099511627776) :
    Calls Try.prog 36 #[.slice a len cap] w fun e w' => e = .returned (.int .i64 (mnRes (rows.map Hd.xs))) ∧ Below w.heap.size w w' := by
  by_cases hon : onceAll (rows.map Hd.xs) = true
  · have hmv : movesOk (rows.map Hd.xs) = true := by
      rw [onceAll, Bool.and_eq_true] at hon
      exact hon.1
    have hl3 : len ≤ 300 := by
      have h1 := hmv
      rw [movesOk, Bool.and_eq_true, decide_eq_true_eq, List.length_map, hin.length] at h1
      exact h1.1
    have hmx : ∀ x ∈ rows.map Hd.xs, isMove x = true := fun x hx => by obtain ⟨r, hr, rfl⟩ := List.mem_map.1 hx; exact movesOk_rows hmv r hr
    have HR : Hid (mnRes (rows.map Hd.xs) = ((ordRes 300 (pairs (rows.map Hd.xs))).length : Int)) := Lib.hid (by rw [mnRes, if_pos hon])
    have HM := Lib.hid (movesOk_rows hmv)
    have HI := Lib.hid (ordInv_big hmx)
    have H1 := Lib.hid hon
    clear hon hmv hmx
    go_enter Try.func36, Try.ntmps36
    go_wp2_with fail
    refine (l14Once_any a len cap rows w hin hs).mono ?_
    rw [H1.out]
    rintro e w1 ⟨rfl, q1, rfl⟩
    have hb1 : Below w.heap.size w (w.drewN q1) := below_drewN (Below.refl _ _) q1
    generalize w.drewN q1 = w1 at hb1 ⊢
    go_wp2_with fail
    refine (l14Order_any a len cap rows 300 w1 (hin.later hb1) hl3 HM.out HI.out).mono ?_
    rintro e w3 ⟨a3, c3, rs3, rfl, _, _, hb3⟩
    have hb03 := hb1.trans (hb3.mono hb1.size)
    clear hb3
    go_wp2
    go_ret
    exact ⟨ret_int HR.out.symm, hb03⟩
  · have hon' : onceAll (rows.map Hd.xs) = false := by simpa using hon
    have HR : Hid (mnRes (rows.map Hd.xs) = -1) := Lib.hid (by rw [mnRes, if_neg hon])
    have H1 := Lib.hid hon'
    clear hon hon'
    go_enter Try.func36, Try.ntmps36
    go_wp2_with fail
    refine (l14Once_any a len cap rows w hin hs).mono ?_
    rw [H1.out]
    rintro e w1 ⟨rfl, q1, rfl⟩
    have hb1 : Below w.heap.size w (w.drewN q1) := below_drewN (Below.refl _ _) q1
    generalize w.drewN q1 = w1 at hb1 ⊢
    go_wp2
    go_ret
    exact ⟨ret_int HR.out.symm, hb1⟩

/-- Few moves leave a register unnamed. -/
theorem unnamed {xss : List (List Int)} (hm : ∀ x ∈ xss, isMove x = true) (hl : xss.length ≤ 100) (hall : ∀ j : Nat, j < 300 → namesIn xss j = true) : False := by
  have h1 : ((List.range 300).map (fun (j : Nat) => (j : Int))).Nodup := by
    rw [List.nodup_iff_pairwise_ne, List.pairwise_map]
    exact List.Pairwise.imp (fun {i j} h e => by omega) (List.pairwise_lt_range (n := 300))
  have h2 := h1.length_le_of_subset (l₂ := xss.flatten) (by
    intro x hx
    obtain ⟨j, hj, rfl⟩ := List.mem_map.1 hx
    have h3 := hall j (List.mem_range.1 hj)
    rw [namesIn, List.any_eq_true] at h3
    obtain ⟨y, hy, h4⟩ := h3
    exact List.mem_flatten.2 ⟨y, hy, by simpa using h4⟩)
  have h5 : ∀ (l : List (List Int)), (∀ x ∈ l, isMove x = true) → l.flatten.length = 2 * l.length := by
    intro l
    induction l with
    | nil => intro _; rfl
    | cons x l ih =>
      intro h
      obtain ⟨i, j, rfl, _, _⟩ := isMove_cases (h x (by simp))
      have := ih (fun y hy => h y (by simp [hy]))
      simp at this ⊢
      omega
  rw [h5 xss hm] at h2
  simp at h2
  omega

set_option maxRecDepth 100000 in
set_option maxHeartbeats 1000000 in
theorem implNeeded_any (a : Option Addr) (len cap : Nat) (rows : List Hd) (w : World) (hin : MatRd w a len rows) (hs : len ≤ 100) :
    Calls Try.prog 37 #[.slice a len cap] w fun e w' => e = .returned (.int .i64 (mnRes (rows.map Hd.xs))) ∧ Below w.heap.size w w' := by
  go_enter Try.func37, Try.ntmps37
  have HL := Lib.hid hin.length
  go_wp2
  go_loopw [6] (fun i wr => ∃ k : Nat, k ≤ 300 ∧ i = .int .i64 k ∧ Below w.heap.size w wr ∧ Hid ((∀ j : Nat, j < k → namesIn (rows.map Hd.xs) j = true) ∧ (0 < k → movesOk (rows.map Hd.xs) = true))) (fun i _ => 300 - (intOf i).toNat)
  case atStart => exact ⟨0, by omega, rfl, Below.refl _ _, Lib.hid ⟨fun j hj => by omega, fun h => by omega⟩⟩
  case round =>
    obtain ⟨k, hk, rfl, hbr, hst⟩ := hrel
    by_cases hlt : k < 300
    · by_cases hmv : movesOk (rows.map Hd.xs) = true
      · have H1 := Lib.hid hmv
        have HLN := Lib.hid (isMove_lens (movesOk_rows hmv))
        by_cases hnm : namesIn (rows.map Hd.xs) k = true
        · have H2 := Lib.hid hnm
          clear hmv hnm
          go_wp2_with fail
          refine (areMoves_any a len cap rows wr (hin.later hbr) (by omega)).mono ?_
          rw [H1.out]
          rintro e w1 ⟨rfl, hb1⟩
          have hb01 := hbr.trans (hb1.mono hbr.size)
          go_wp2_with fail
          refine (namesReg_any a len cap rows k w1 (hin.later hb01) (by omega) HLN.out).mono ?_
          rw [H2.out]
          rintro e w2 ⟨rfl, hb2⟩
          have hb02 := hb01.trans (hb2.mono hb01.size)
          clear hb1 hb2 hb01
          go_wp2
          go_roundw
          case rel =>
            refine ⟨k + 1, by omega, by go_num, hb02, Lib.hid ⟨fun j hj => ?_, fun _ => H1.out⟩⟩
            by_cases hjk : j = k
            · subst hjk; exact H2.out
            · exact hst.out.1 j (by omega)
          case measure => simp [intOf]; omega
        · have hnm' : namesIn (rows.map Hd.xs) k = false := by simpa using hnm
          have H2 := Lib.hid hnm'
          have hmx : ∀ x ∈ rows.map Hd.xs, isMove x = true := fun x hx => by obtain ⟨r, hr, rfl⟩ := List.mem_map.1 hx; exact movesOk_rows hmv r hr
          have hok : ordOk (rows.map Hd.xs) k = onceAll (rows.map Hd.xs) := by
            rw [ordOk, hnm', decide_eq_true (show (0 : Int) ≤ (k : Int) ∧ (k : Int) ≤ 299 by omega)]
            cases onceAll (rows.map Hd.xs) <;> rfl
          have hout : ∀ m ∈ pairs (rows.map Hd.xs), m.1 ≠ (k : Int) ∧ m.2 ≠ (k : Int) ∧ m.1 ≠ 300 ∧ m.2 ≠ 300 := by
            intro m hm
            obtain ⟨hx, _, h0, h1, h2, h3⟩ := pairs_mem hmx hm
            have h4 : ¬ (k : Int) ∈ enc m := by
              intro hc
              rw [namesIn, List.any_eq_false] at hnm'
              exact hnm' _ hx (by simpa using hc)
            simp only [enc, List.mem_cons, List.not_mem_nil, or_false, not_or] at h4
            exact ⟨fun e => h4.1 e.symm, fun e => h4.2 e.symm, by omega, by omega⟩
          by_cases hon : onceAll (rows.map Hd.xs) = true
          · have HR : Hid (((ordRes' (rows.map Hd.xs) k).length : Int) = mnRes (rows.map Hd.xs)) := Lib.hid (by
              rw [mnRes, if_pos hon, ordRes', if_pos (by rw [hok]; exact hon), List.length_map, ordRes_any_spare (s2 := 300) (by omega) hout])
            have HO : Hid (ordOk (rows.map Hd.xs) k = true) := Lib.hid (by rw [hok]; exact hon)
            clear hmv hnm hnm' hmx hok hout hon
            go_wp2_with fail
            refine (areMoves_any a len cap rows wr (hin.later hbr) (by omega)).mono ?_
            rw [H1.out]
            rintro e w1 ⟨rfl, hb1⟩
            have hb01 := hbr.trans (hb1.mono hbr.size)
            go_wp2_with fail
            refine (namesReg_any a len cap rows k w1 (hin.later hb01) (by omega) HLN.out).mono ?_
            rw [H2.out]
            rintro e w2 ⟨rfl, hb2⟩
            have hb02 := hb01.trans (hb2.mono hb01.size)
            clear hb1 hb2 hb01
            go_wp2_with fail
            refine (implOrder_all a len cap rows k w2 (hin.later hb02) (by omega)).mono ?_
            rw [HO.out]
            rintro e w3 ⟨a3, n3, c3, rs3, rfl, hm3, hx3, hb3⟩
            have hn3 : n3 = (ordRes' (rows.map Hd.xs) k).length := by rw [← len_of_xs hx3]; exact hm3.at.length.symm
            have HN3 := Lib.hid hn3
            have hb03 := hb02.trans (hb3.mono hb02.size)
            clear hm3 hx3 hb3 hn3
            go_wp2
            go_ret
            exact ⟨ret_int (by rw [← HR.out, HN3.out]), hb03⟩
          · have hon' : onceAll (rows.map Hd.xs) = false := by simpa using hon
            have HR : Hid (mnRes (rows.map Hd.xs) = -1) := Lib.hid (by rw [mnRes, if_neg hon])
            have HO : Hid (ordOk (rows.map Hd.xs) k = false) := Lib.hid (by rw [hok]; exact hon')
            clear hmv hnm hnm' hmx hok hout hon hon'
            go_wp2_with fail
            refine (areMoves_any a len cap rows wr (hin.later hbr) (by omega)).mono ?_
            rw [H1.out]
            rintro e w1 ⟨rfl, hb1⟩
            have hb01 := hbr.trans (hb1.mono hbr.size)
            go_wp2_with fail
            refine (namesReg_any a len cap rows k w1 (hin.later hb01) (by omega) HLN.out).mono ?_
            rw [H2.out]
            rintro e w2 ⟨rfl, hb2⟩
            have hb02 := hb01.trans (hb2.mono hb01.size)
            clear hb1 hb2 hb01
            go_wp2_with fail
            refine (implOrder_all a len cap rows k w2 (hin.later hb02) (by omega)).mono ?_
            rw [HO.out]
            rintro e w3 ⟨a3, n3, c3, rs3, rfl, hm3, hx3, hb3⟩
            have hb03 := hb02.trans (hb3.mono hb02.size)
            clear hm3 hx3 hb3
            go_wp2
            go_ret
            exact ⟨ret_int HR.out.symm, hb03⟩
      · have hmv' : movesOk (rows.map Hd.xs) = false := by simpa using hmv
        have HR : Hid (mnRes (rows.map Hd.xs) = -1) := Lib.hid (by rw [mnRes, onceAll, hmv', if_neg (by simp)])
        have H1 := Lib.hid hmv'
        clear hmv hmv'
        go_wp2_with fail
        refine (areMoves_any a len cap rows wr (hin.later hbr) (by omega)).mono ?_
        rw [H1.out]
        rintro e w1 ⟨rfl, hb1⟩
        have hb01 := hbr.trans (hb1.mono hbr.size)
        clear hb1
        go_wp2
        go_ret
        exact ⟨ret_int HR.out.symm, hb01⟩
    · obtain rfl : k = 300 := by omega
      exfalso
      have hmv := hst.out.2 (by omega)
      refine unnamed (xss := rows.map Hd.xs) (fun x hx => by obtain ⟨r, hr, rfl⟩ := List.mem_map.1 hx; exact movesOk_rows hmv r hr) (by rw [List.length_map, HL.out]; omega) hst.out.1

end Go.Proofs.Ythadaohnanpmiaa
