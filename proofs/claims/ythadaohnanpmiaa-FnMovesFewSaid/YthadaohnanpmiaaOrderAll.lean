/-
  OrderMoves, whole: the program and the reference return the same.
-/
import Derived.Test.YthadaohnanpmiaaOrderSpec
namespace Go.Proofs.Ythadaohnanpmiaa
open Go.RowKit

theorem implOrder_all (a : Option Addr) (len cap : Nat) (rows : List Hd) (spare : Int) (w : World) (hin : MatRd w a len rows) (hs : len ≤ 1099511627776) :
    Calls Try.prog 41 #[.slice a len cap, .int .i64 spare] w fun e w' => RetMatOk w (ordRes' (rows.map Hd.xs) spare) (ordOk (rows.map Hd.xs) spare) e w' := by
  by_cases hok : ordOk (rows.map Hd.xs) spare = true
  · rw [ordRes', if_pos hok, hok]
    exact implOrder_yes a len cap rows spare w hin hs hok
  · have hok' : ordOk (rows.map Hd.xs) spare = false := by simpa using hok
    rw [ordRes', if_neg hok, hok']
    exact implOrder_no a len cap rows spare w hin hs hok'

theorem ret_empty (w w1 : World) (hb : Below w.heap.size w w1) : RetMatOk w [] false (.returned (.tuple #[.slice (some ⟨w1.heap.size, 0, none⟩) 0 0, .bool false])) (w1.alloc (.cells #[] 22)) :=
  ⟨_, 0, 0, [], rfl, ⟨own_empty w1 w.heap.size 22 1 hb.size, by rintro k hk; cases hk; simp, by simp, by simp, by simp⟩, rfl, hb.alloc hb.size _⟩

theorem names_none {xss : List (List Int)} {r : Int} (h : ∀ x ∈ xss, r ∉ x) : namesIn xss r = false := by
  rw [namesIn, List.any_eq_false]
  intro x hx
  simpa using h x hx
theorem names_some {xss : List (List Int)} {r : Int} {x : List Int} (hx : x ∈ xss) (h : r ∈ x) : namesIn xss r = true := by
  rw [namesIn, List.any_eq_true]
  exact ⟨x, hx, by simpa using h⟩

set_option maxHeartbeats 1000000 in
theorem specOrder_any (a : Option Addr) (len cap : Nat) (rows : List Hd) (spare : Int) (w : World) (hin : MatRd w a len rows) (hs : len ≤ 1099511627776) :
    Calls Try.prog 40 #[.slice a len cap, .int .i64 spare] w fun e w' => RetMatOk w (ordRes' (rows.map Hd.xs) spare) (ordOk (rows.map Hd.xs) spare) e w' := by
  have HN := Lib.hid hs
  by_cases hon : onceAll (rows.map Hd.xs) = true
  · by_cases hsp : 0 ≤ spare ∧ spare ≤ 299
    · have hmv : movesOk (rows.map Hd.xs) = true := by
        rw [onceAll, Bool.and_eq_true] at hon
        exact hon.1
      have hl3 : len ≤ 300 := by
        have h1 := hmv
        rw [movesOk, Bool.and_eq_true, decide_eq_true_eq, List.length_map, hin.length] at h1
        exact h1.1
      have HM := Lib.hid (movesOk_rows hmv)
      have H1 := Lib.hid hon
      have HSP := Lib.hid hsp
      have HL := Lib.hid hin.length
      have hok : ∀ b, namesIn (rows.map Hd.xs) spare = b → ordOk (rows.map Hd.xs) spare = !b := by
        intro b hb
        rw [ordOk, hon, decide_eq_true hsp, hb]
        rfl
      have HOK := Lib.hid hok
      clear hmv hon hok
      go_enter Try.func40, Try.ntmps40
      go_wp2_with fail
      refine (l14Once_any a len cap rows w hin hs).mono ?_
      rw [H1.out]
      rintro e w1 ⟨rfl, q1, rfl⟩
      go_wp2_with fail
      refine (l1In_yes spare 0 299 _ HSP.out).mono ?_
      rintro e w2 ⟨rfl, rfl⟩
      have hb1 : Below w.heap.size w (w.drewN q1) := below_drewN (Below.refl _ _) q1
      generalize w.drewN q1 = w1 at hb1 ⊢
      clear hsp
      go_wp2
      go_loopw [6] (fun i wr => ∃ k : Nat, k ≤ len ∧ i = .int .i64 k ∧ Below w.heap.size w wr ∧ Hid (∀ j r, j < k → rows[j]? = some r → spare ∉ r.xs)) (fun i _ => len - (intOf i).toNat)
      case atStart => exact ⟨0, Nat.zero_le _, rfl, hb1, Lib.hid (fun j r hj => by omega)⟩
      case round =>
        obtain ⟨k, hk, rfl, hbr, hno⟩ := hrel
        clear hb1
        by_cases hlt : k < len
        · obtain ⟨b, off, ai, ci, xs, rfl, hx, hc, hi⟩ := (hin.later hbr).place hlt
          have hmem := List.mem_of_getElem? hx
          obtain ⟨i, j, hij, hi9, hj9⟩ := isMove_cases (HM.out _ hmem)
          simp only at hij
          subst hij
          obtain ⟨bm, om, rfl, hd0, hd1⟩ := two_cells hi
          have HX := Lib.hid hx
          have hyes : (i : Int) = spare ∨ (j : Int) = spare → ordOk (rows.map Hd.xs) spare = false := by
            intro hor
            refine HOK.out true (names_some (List.mem_map.2 ⟨_, hmem, rfl⟩) ?_)
            rcases hor with h | h
            · simp [h]
            · simp [h]
          have HY := Lib.hid hyes
          clear hx hmem hyes
          by_cases h1 : (i : Int) = spare
          · have hd : ((i : Int) == spare) = true := by simpa using h1
            have HO := Lib.hid (HY.out (.inl h1))
            clear h1
            go_wp2
            go_ret2
            rw [ordRes', HO.out, if_neg (by simp)]
            exact ret_empty w _ hbr
          · have hd : ((i : Int) == spare) = false := by simpa using h1
            by_cases h2 : (j : Int) = spare
            · have hd2 : ((j : Int) == spare) = true := by simpa using h2
              have HO := Lib.hid (HY.out (.inr h2))
              clear h1 h2
              go_wp2
              go_ret2
              rw [ordRes', HO.out, if_neg (by simp)]
              exact ret_empty w _ hbr
            · have hd2 : ((j : Int) == spare) = false := by simpa using h2
              have HNE : Hid (¬ (i : Int) = spare ∧ ¬ (j : Int) = spare) := Lib.hid ⟨h1, h2⟩
              clear h1 h2
              go_wp2
              go_roundw
              case rel =>
                refine ⟨k + 1, by omega, by go_num, hbr, Lib.hid (fun q r hq hqr => ?_)⟩
                by_cases hqk : q = k
                · subst hqk
                  rw [HX.out] at hqr
                  cases hqr
                  have := HNE.out
                  simp
                  exact ⟨fun h => this.1 h.symm, fun h => this.2 h.symm⟩
                · exact hno.out q r (by omega) hqr
              case measure => simp [intOf]; omega
        · obtain rfl : k = len := by omega
          have hnames : namesIn (rows.map Hd.xs) spare = false := by
            refine names_none (fun x hx => ?_)
            obtain ⟨r, hr, rfl⟩ := List.mem_map.1 hx
            obtain ⟨j, hj⟩ := List.getElem?_of_mem hr
            exact hno.out j r (by have := (List.getElem?_eq_some_iff.1 hj).1; have := HL.out; omega) hj
          have HO : Hid (ordOk (rows.map Hd.xs) spare = true) := Lib.hid (HOK.out false hnames)
          have HI := Lib.hid (ordInv_pairs (fun x hx => by obtain ⟨r, hr, rfl⟩ := List.mem_map.1 hx; exact HM.out r hr) hnames)
          clear hnames
          go_wp2_with fail
          refine (l14Order_any a k cap rows spare wr (hin.later hbr) hl3 HM.out HI.out).mono ?_
          rintro e w3 ⟨a3, c3, rs3, rfl, hm3, hx3, hb3⟩
          have HX3 := Lib.hid hx3
          have hb03 := hbr.trans (hb3.mono hbr.size)
          have hs := hbr.size
          clear hx3 hb3
          go_wp2
          go_ret2
          rw [ordRes', if_pos HO.out, HO.out]
          refine ⟨a3, _, c3, rs3, rfl, ⟨own_lower hm3.own (fun q hq => Nat.le_trans hs (hm3.own.lt q hq).1), hm3.ownHi, fun r hr => own_lower (hm3.rows r hr) (fun q hq => Nat.le_trans hs ((hm3.rows r hr).lt q hq).1), hm3.rowsHi, hm3.apart⟩, HX3.out, hb03⟩
    · have hok : ordOk (rows.map Hd.xs) spare = false := by rw [ordOk, decide_eq_false hsp]; simp
      have H1 := Lib.hid hon
      have HSP := Lib.hid hsp
      rw [ordRes', hok, if_neg (by simp)]
      clear hon hok hsp
      go_enter Try.func40, Try.ntmps40
      go_wp2_with fail
      refine (l14Once_any a len cap rows w hin hs).mono ?_
      rw [H1.out]
      rintro e w1 ⟨rfl, q1, rfl⟩
      go_wp2_with fail
      refine (l1In_no spare 0 299 _ HSP.out).mono ?_
      rintro e w2 ⟨rfl, rfl⟩
      have hb1 : Below w.heap.size w (w.drewN q1) := below_drewN (Below.refl _ _) q1
      generalize w.drewN q1 = w1 at hb1 ⊢
      go_wp2
      go_ret2
      exact ret_empty w _ hb1
  · have hon' : onceAll (rows.map Hd.xs) = false := by simpa using hon
    have hok : ordOk (rows.map Hd.xs) spare = false := by rw [ordOk, hon']; simp
    have H1 := Lib.hid hon'
    rw [ordRes', hok, if_neg (by simp)]
    clear hon hon' hok
    go_enter Try.func40, Try.ntmps40
    go_wp2_with fail
    refine (l14Once_any a len cap rows w hin hs).mono ?_
    rw [H1.out]
    rintro e w1 ⟨rfl, q1, rfl⟩
    have hb1 : Below w.heap.size w (w.drewN q1) := below_drewN (Below.refl _ _) q1
    generalize w.drewN q1 = w1 at hb1 ⊢
    go_wp2
    go_ret2
    exact ret_empty w _ hb1

end Go.Proofs.Ythadaohnanpmiaa
