
/-
  LoopOuter, the reference's and the program's.
-/
import Derived.Test.YtkhnhdgbbjppeaaLoopDepth
import Derived.StillTailTactics
namespace Go.Proofs.Ytkhnhdgbbjppeaa
open Go.RowKit

/-- Is the loop at x around h, and less than what has been found? -/
def outB (h best : Int) (size : Nat) (x : Int) (body : List Int) : Bool := !(x == h) && (decide (h ∈ body) && (decide (best < 0) || decide (body.length < size)))
noncomputable def outerTo (g : List (List Int)) (h : Int) : Nat → Int × Nat
  | 0 => (-1, 0)
  | k + 1 => if outB h (outerTo g h k).1 (outerTo g h k).2 ((headsP g).getD k 0) (loopP g ((headsP g).getD k 0)) then ((headsP g).getD k 0, (loopP g ((headsP g).getD k 0)).length) else outerTo g h k
theorem outerTo_succ {g : List (List Int)} {h x : Int} {k : Nat} (hx : (headsP g)[k]? = some x) : outerTo g h (k + 1) = if outB h (outerTo g h k).1 (outerTo g h k).2 x (loopP g x) then (x, (loopP g x).length) else outerTo g h k := by
  rw [outerTo, List.getD_eq_getElem?_getD, hx]; rfl
noncomputable def outerP (g : List (List Int)) (h : Int) : Int := if h ∈ headsP g then (outerTo g h (headsP g).length).1 else -1

set_option maxRecDepth 100000 in
set_option maxHeartbeats 2000000 in
theorem specLoopOuter_any (p r : Int) (ba : Option Addr) (bc : Nat) (g : List (List Int)) (h : Int) (w : World) (hg : Gr w ba g) :
    Calls Try.prog 47 #[.agg #[.int .i64 p, .int .i64 r, .slice ba g.length bc], .int .i64 h] w fun e w' => e = .returned (.int .i64 (outerP g h)) ∧ Below w.heap.size w w' := by
  have hb0 := below_box w (.int .i64 p) (.int .i64 r) (.slice ba g.length bc)
  have HC := Lib.hid (heap_alloc_new w (.cells #[.int .i64 p, .int .i64 r, .slice ba g.length bc] 51))
  have hlen := hg.len
  have hhl := headsP_le hg
  go_enter Try.func47, Try.ntmps47
  go_wp2_with fail
  refine (specLoopHeads_any p r ba bc g _ (hg.later hb0)).mono ?_
  rintro e w3 ⟨a3, c3, rfl, hrd3, hb3⟩
  have HO3 := Lib.hid (And.intro hrd3 (And.intro (hb0.trans (hb3.mono hb0.size)) ((hb3.block w.heap.size (by simp)).trans HC.out)))
  clear hrd3 hb3 hb0 HC
  go_wp2_with fail
  go_loopg [6, 7, 8] (headsP g).length (fun F bs sz i wr => ∃ k : Nat, k + F = (headsP g).length ∧ i = .int .i64 k ∧ bs = .int .i64 (outerTo g h k).1 ∧ sz = .int .i64 ((outerTo g h k).2 : Nat) ∧ Hid (Below w3.heap.size w3 wr ∧ (h ∉ headsP g → k = 0)))
  case atStart => exact ⟨0, by omega, rfl, rfl, rfl, Lib.hid ⟨Below.refl _ _, fun _ => rfl⟩⟩
  case round =>
    obtain ⟨k, hk, rfl, rfl, rfl, HK⟩ := hrel
    by_cases hlt : k < (headsP g).length
    · have hki : (k : Int) < ((headsP g).length : Int) := by omega
      have hdl : decide ((k : Int) < ((headsP g).length : Int)) = true := decide_eq_true hki
      go_wp2_with fail
      refine (l10At_any a3 _ c3 (headsP g) h wr (HO3.out.1.later HK.out.1) (by omega)).mono ?_
      rintro e w4 ⟨rfl, rfl⟩
      have HIN := Lib.hid (idxInt_nonneg (x := h) (headsP g))
      generalize hix : idxInt h (headsP g) = ix at HIN ⊢
      clear hix
      by_cases hm : h ∈ headsP g
      · have hi0 : 0 ≤ ix := by have := HIN.out; rw [decide_eq_true hm] at this; exact of_decide_eq_true this
        have hdi : decide (0 ≤ ix) = true := decide_eq_true hi0
        obtain ⟨hb, ho, x, rfl, hx, hcx⟩ := (HO3.out.1.later HK.out.1).place hlt
        have hblk := (HK.out.1.block _ (Array.getElem?_eq_some_iff.1 HO3.out.2.2).1).trans HO3.out.2.2
        have k0 : wr.cell? ⟨w.heap.size, 0, none⟩ = some (.int .i64 p) := cell_of_row _ _ 0 _ _ _ hblk
        have k1 : wr.cell? ⟨w.heap.size, 1, none⟩ = some (.int .i64 r) := cell_of_row _ _ 1 _ _ _ hblk
        have k2 : wr.cell? ⟨w.heap.size, 2, none⟩ = some (.slice ba g.length bc) := cell_of_row _ _ 2 _ _ _ hblk
        have HX := Lib.hid (And.intro (outerTo_succ (h := h) hx) (And.intro hm hx))
        have hlp := loopP_len g x
        clear hblk hx hm HIN
        generalize outerTo g h k = st at HX ⊢
        obtain ⟨best, size⟩ := st
        go_upto_region 7 with fail
        go_still_tail 5, (by kernel_rfl)
        change wpList _ _ _ _ _ wr.drew
        have HD := Lib.hid (HK.out.1.trans (show Below w3.heap.size wr wr.drew from (Below.refl _ _).drew))
        clear k0 k1 k2 hcx
        generalize wr.drew = wd at HD ⊢
        go_wp2_with fail
        refine (specLoopBody_rd p r ba bc g x wd (hg.later (HO3.out.2.1.trans (HD.out.mono HO3.out.2.1.size)))).mono ?_
        rintro e w9 ⟨a9, c9, rfl, hrd9, hb9⟩
        have hcx := ((HO3.out.1.later (HD.out.trans (hb9.mono HD.out.size)))).cell HX.out.2.2
        have H9 := Lib.hid (And.intro hrd9 (HD.out.trans (hb9.mono HD.out.size)))
        clear hrd9 hb9
        by_cases hxh : x = h
        · have he : (x == h) = true := by simpa using hxh
          have hne : (x != h) = false := by simp [hxh]
          have HS := Lib.hid (show outerTo g h (k + 1) = (best, size) by rw [HX.out.1, if_neg (by simp [outB, hxh])])
          clear hxh
          go_wp2
          go_roundg (gk - 1)
          case measure => omega
          case rel => exact ⟨k + 1, by omega, by go_num, by rw [HS.out], by rw [HS.out], Lib.hid ⟨H9.out.2, fun hn => absurd HX.out.2.1 hn⟩⟩
        · have he : (x == h) = false := by simpa using hxh
          have hne : (x != h) = true := by simp [hxh]
          go_wp2_with fail
          refine (l10At_any a9 _ c9 (loopP g x) h w9 H9.out.1 (by omega)).mono ?_
          rintro e w10 ⟨rfl, rfl⟩
          have HIN2 := Lib.hid (idxInt_nonneg (x := h) (loopP g x))
          generalize hix2 : idxInt h (loopP g x) = iy at HIN2 ⊢
          clear hix2
          by_cases hmb : h ∈ loopP g x
          · have hy0 : 0 ≤ iy := by have := HIN2.out; rw [decide_eq_true hmb] at this; exact of_decide_eq_true this
            have hdy : decide (0 ≤ iy) = true := decide_eq_true hy0
            by_cases hbn : best < 0
            · have hdb : decide (best < 0) = true := decide_eq_true hbn
              have HS := Lib.hid (show outerTo g h (k + 1) = (x, (loopP g x).length) by rw [HX.out.1, if_pos (by simp [outB, hxh, hmb, hbn])])
              clear hxh hmb HIN2
              go_wp2
              go_roundg (gk - 1)
              case measure => omega
              case rel => exact ⟨k + 1, by omega, by go_num, by rw [HS.out], by rw [HS.out], Lib.hid ⟨H9.out.2, fun hn => absurd HX.out.2.1 hn⟩⟩
            · have hdb : decide (best < 0) = false := decide_eq_false hbn
              by_cases hls : (loopP g x).length < size
              · have hlsi : (((loopP g x).length : Nat) : Int) < (size : Int) := by omega
                have hdl2 : decide ((((loopP g x).length : Nat) : Int) < (size : Int)) = true := decide_eq_true hlsi
                have HS := Lib.hid (show outerTo g h (k + 1) = (x, (loopP g x).length) by rw [HX.out.1, if_pos (by simp [outB, hxh, hmb, hls])])
                clear hxh hmb HIN2
                go_wp2
                go_roundg (gk - 1)
                case measure => omega
                case rel => exact ⟨k + 1, by omega, by go_num, by rw [HS.out], by rw [HS.out], Lib.hid ⟨H9.out.2, fun hn => absurd HX.out.2.1 hn⟩⟩
              · have hdl2 : decide ((((loopP g x).length : Nat) : Int) < (size : Int)) = false := decide_eq_false (by omega)
                have HS := Lib.hid (show outerTo g h (k + 1) = (best, size) by rw [HX.out.1, if_neg (by simp [outB, hbn]; intro _ _; omega)])
                clear hxh hmb HIN2
                go_wp2
                go_roundg (gk - 1)
                case measure => omega
                case rel => exact ⟨k + 1, by omega, by go_num, by rw [HS.out], by rw [HS.out], Lib.hid ⟨H9.out.2, fun hn => absurd HX.out.2.1 hn⟩⟩
          · have hy0 : ¬ 0 ≤ iy := by have := HIN2.out; rw [decide_eq_false hmb] at this; exact of_decide_eq_false this
            have hdy : decide (0 ≤ iy) = false := decide_eq_false hy0
            have HS := Lib.hid (show outerTo g h (k + 1) = (best, size) by rw [HX.out.1, if_neg (by simp [outB, hmb])])
            clear hxh hmb HIN2
            go_wp2
            go_roundg (gk - 1)
            case measure => omega
            case rel => exact ⟨k + 1, by omega, by go_num, by rw [HS.out], by rw [HS.out], Lib.hid ⟨H9.out.2, fun hn => absurd HX.out.2.1 hn⟩⟩
      · have hi0 : ¬ 0 ≤ ix := by have := HIN.out; rw [decide_eq_false hm] at this; exact of_decide_eq_false this
        have hdi : decide (0 ≤ ix) = false := decide_eq_false hi0
        obtain rfl := HK.out.2 hm
        have HP := Lib.hid (show outerP g h = -1 by rw [outerP, if_neg hm])
        have HN := Lib.hid (HO3.out.2.1.trans (HK.out.1.mono HO3.out.2.1.size))
        clear hm HIN
        go_wp2
        go_ret
        exact ⟨ret_int HP.out.symm, HN.out⟩
    · obtain rfl : k = (headsP g).length := by omega
      have hdl : decide (((headsP g).length : Int) < ((headsP g).length : Int)) = false := decide_eq_false (by omega)
      have HP := Lib.hid (show outerP g h = (outerTo g h (headsP g).length).1 by
        rw [outerP]
        by_cases hm : h ∈ headsP g
        · rw [if_pos hm]
        · rw [if_neg hm, HK.out.2 hm]; rfl)
      have HN := Lib.hid (HO3.out.2.1.trans (HK.out.1.mono HO3.out.2.1.size))
      go_wp2
      go_ret
      exact ⟨ret_int HP.out.symm, HN.out⟩

set_option maxRecDepth 100000 in
set_option maxHeartbeats 2000000 in
theorem implLoopOuter_any (p r : Int) (ba : Option Addr) (bc : Nat) (g : List (List Int)) (h : Int) (w : World) (hg : Gr w ba g) :
    Calls Try.prog 48 #[.agg #[.int .i64 p, .int .i64 r, .slice ba g.length bc], .int .i64 h] w fun e w' => e = .returned (.int .i64 (outerP g h)) ∧ Below w.heap.size w w' := by
  have hb0 := below_box w (.int .i64 p) (.int .i64 r) (.slice ba g.length bc)
  have hlen := hg.len
  have hhl := headsP_le hg
  go_enter Try.func48, Try.ntmps48
  go_wp2_with fail
  refine (domsOf_any g p r ba bc _ (hg.later hb0)).mono ?_
  rintro e w1 ⟨hb1, hcase⟩
  have hb01 := hb0.trans (hb1.mono hb0.size)
  rcases hcase with ⟨hf, rfl⟩ | ⟨hf, db, oa, oc, sb, rfl, hD⟩
  · have HP := Lib.hid (show outerP g h = -1 by
      rw [outerP, if_neg (fun hm => by have := fits_iff.2 (headsP_mem hm).1; rw [hf] at this; cases this)])
    clear hf
    go_wp2
    go_ret
    exact ⟨ret_int HP.out.symm, hb01⟩
  · have HH := Lib.hid (show headsP g = filtTo (headB g) g.length by rw [headsP, fits_iff.2 hf]; rfl)
    go_wp2_with fail
    refine (heads_any p r ba bc g hf db oa oc sb w1 (hg.later hb01) hD hlen).mono ?_
    rw [← HH.out]
    rintro e w2 ⟨a2, c2, rfl, hown2, hb2⟩
    have HD2 := Lib.hid (And.intro (ints_of_own hown2).toIntsRd (And.intro (hD.later hb2) (hb01.trans (hb2.mono hb01.size))))
    clear hown2 hb2 hD hb01 hb0 hb1
    go_wp2_with fail
    refine (contains_any a2 _ c2 (headsP g) h w2 HD2.out.1 (by omega)).mono ?_
    rintro e w3 ⟨rfl, rfl⟩
    by_cases hm : h ∈ headsP g
    · have hd : decide (h ∈ headsP g) = true := decide_eq_true hm
      have HP := Lib.hid (show outerP g h = (outerTo g h (headsP g).length).1 by rw [outerP, if_pos hm])
      clear hm
      go_wp2_with fail
      refine (heads_any p r ba bc g hf db oa oc sb w2 (hg.later HD2.out.2.2) HD2.out.2.1 hlen).mono ?_
      rw [← HH.out]
      rintro e w3 ⟨a3, c3, rfl, hown3, hb3⟩
      have HO3 := Lib.hid (And.intro (ints_of_own hown3).toIntsRd (And.intro (HD2.out.2.1.later hb3) (HD2.out.2.2.trans (hb3.mono HD2.out.2.2.size))))
      clear hown3 hb3 hd
      go_wp2_with fail
      go_loopg [6, 7, 25] (headsP g).length (fun F bs sz i wr => ∃ k : Nat, k + F = (headsP g).length ∧ i = .int .i64 k ∧ bs = .int .i64 (outerTo g h k).1 ∧ sz = .int .i64 ((outerTo g h k).2 : Nat) ∧ Hid (Below w3.heap.size w3 wr))
      case atStart => exact ⟨0, by omega, rfl, rfl, rfl, Lib.hid (Below.refl _ _)⟩
      case round =>
        obtain ⟨k, hk, rfl, rfl, rfl, HK⟩ := hrel
        by_cases hlt : k < (headsP g).length
        · obtain ⟨hb, ho, x, rfl, hx, hcx⟩ := (HO3.out.1.later HK.out).place hlt
          obtain ⟨i, rfl, hil, hir, hlp⟩ := loopP_head (List.mem_of_getElem? hx)
          have hki : (k : Int) < ((headsP g).length : Int) := by omega
          have HX := Lib.hid (And.intro (outerTo_succ (h := h) hx) hx)
          have HBW := Lib.hid (HO3.out.2.2.trans (HK.out.mono HO3.out.2.2.size))
          have HBD := Lib.hid (body_any p r ba bc g hf db oa oc sb i hil hir wr (hg.later HBW.out) (HO3.out.2.1.later HK.out))
          have hll := loopP_len g (i : Int)
          clear hx
          generalize outerTo g h k = st at HX ⊢
          obtain ⟨best, size⟩ := st
          go_wp2_with fail
          refine HBD.out.mono ?_
          rw [← hlp]
          rintro e w9 ⟨a9, c9, rfl, hown9, hb9⟩
          have H9 := Lib.hid (And.intro (ints_of_own hown9).toIntsRd (HK.out.trans (hb9.mono HK.out.size)))
          clear hown9 hb9 hcx hlp HBD
          generalize (i : Int) = x at HX H9 hll ⊢
          by_cases hxh : x = h
          · have he : (x == h) = true := by simpa using hxh
            have hne : (x != h) = false := by simp [hxh]
            have HS := Lib.hid (show outerTo g h (k + 1) = (best, size) by rw [HX.out.1, if_neg (by simp [outB, hxh])])
            clear hxh
            go_wp2
            go_roundg (gk - 1)
            case measure => omega
            case rel => exact ⟨k + 1, by omega, by go_num, by rw [HS.out], by rw [HS.out], Lib.hid H9.out.2⟩
          · have he : (x == h) = false := by simpa using hxh
            have hne : (x != h) = true := by simp [hxh]
            go_wp2_with fail
            refine (contains_any a9 _ c9 (loopP g x) h w9 H9.out.1 (by omega)).mono ?_
            rintro e w10 ⟨rfl, rfl⟩
            by_cases hmb : h ∈ loopP g x
            · have hdy : decide (h ∈ loopP g x) = true := decide_eq_true hmb
              by_cases hbn : best < 0
              · have hdb : decide (best < 0) = true := decide_eq_true hbn
                have HS := Lib.hid (show outerTo g h (k + 1) = (x, (loopP g x).length) by rw [HX.out.1, if_pos (by simp [outB, hxh, hmb, hbn])])
                clear hxh hmb
                go_wp2
                go_roundg (gk - 1)
                case measure => omega
                case rel => exact ⟨k + 1, by omega, by go_num, by rw [HS.out], by rw [HS.out], Lib.hid H9.out.2⟩
              · have hdb : decide (best < 0) = false := decide_eq_false hbn
                by_cases hls : (loopP g x).length < size
                · have hlsi : (((loopP g x).length : Nat) : Int) < (size : Int) := by omega
                  have hdl2 : decide ((((loopP g x).length : Nat) : Int) < (size : Int)) = true := decide_eq_true hlsi
                  have HS := Lib.hid (show outerTo g h (k + 1) = (x, (loopP g x).length) by rw [HX.out.1, if_pos (by simp [outB, hxh, hmb, hls])])
                  clear hxh hmb
                  go_wp2
                  go_roundg (gk - 1)
                  case measure => omega
                  case rel => exact ⟨k + 1, by omega, by go_num, by rw [HS.out], by rw [HS.out], Lib.hid H9.out.2⟩
                · have hdl2 : decide ((((loopP g x).length : Nat) : Int) < (size : Int)) = false := decide_eq_false (by omega)
                  have HS := Lib.hid (show outerTo g h (k + 1) = (best, size) by rw [HX.out.1, if_neg (by simp [outB, hbn]; intro _ _; omega)])
                  clear hxh hmb
                  go_wp2
                  go_roundg (gk - 1)
                  case measure => omega
                  case rel => exact ⟨k + 1, by omega, by go_num, by rw [HS.out], by rw [HS.out], Lib.hid H9.out.2⟩
            · have hdy : decide (h ∈ loopP g x) = false := decide_eq_false hmb
              have HS := Lib.hid (show outerTo g h (k + 1) = (best, size) by rw [HX.out.1, if_neg (by simp [outB, hmb])])
              clear hxh hmb
              go_wp2
              go_roundg (gk - 1)
              case measure => omega
              case rel => exact ⟨k + 1, by omega, by go_num, by rw [HS.out], by rw [HS.out], Lib.hid H9.out.2⟩
        · obtain rfl : k = (headsP g).length := by omega
          have HN := Lib.hid (HO3.out.2.2.trans (HK.out.mono HO3.out.2.2.size))
          go_wp2
          go_ret
          exact ⟨ret_int HP.out.symm, HN.out⟩
    · have hd : decide (h ∈ headsP g) = false := decide_eq_false hm
      have HP := Lib.hid (show outerP g h = -1 by rw [outerP, if_neg hm])
      clear hm
      go_wp2
      go_ret
      exact ⟨ret_int HP.out.symm, HD2.out.2.2⟩

end Go.Proofs.Ytkhnhdgbbjppeaa
