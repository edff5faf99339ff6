
/-
  ReadMins, the reference's: the walk.
-/
import Derived.Test.YtdkafajmhgfkoaaDoorRmSpec
import Derived.Test.YtdkafajmhgfkoaaDoorMv
namespace Go.Proofs.YtdkafajmhgfkoaaDoor
open Go.RowKit

/-- What ReadMins answers. -/
def rmFind (ws : List ByteArray) : Nat → Option (Nat × List Int)
  | 0 => none
  | f + 1 => if nameL.getD (22 - f) ⟨#[]⟩ = ws.getD 0 ⟨#[]⟩ ∧ ws.length = (wordL.getD (22 - f) ⟨#[]⟩).size + 1 then (stS (wordL.getD (22 - f) ⟨#[]⟩) ws (wordL.getD (22 - f) ⟨#[]⟩).size).map (fun xs => (22 - f, xs)) else rmFind ws f
def outV : Option (Nat × List Int) → List Value
  | none => [.int .i64 0, .int .i64 0, .int .i64 0, .int .i64 0, .int .i64 0]
  | some (op, xs) => .int .i64 (op : Int) :: xs.map (Value.int .i64)
theorem put_mins {w : World} {g base : Nat} {x0 x1 x2 x3 x4 y0 y1 y2 y3 y4 : Int} (h : w.heap[g]? = some (.cells #[.int .i64 x0, .int .i64 x1, .int .i64 x2, .int .i64 x3, .int .i64 x4] 41 (0, 0))) (hb : base ≤ g) :
    (w.setCells g 0 [.int .i64 y0, .int .i64 y1, .int .i64 y2, .int .i64 y3, .int .i64 y4]).heap[g]? = some (.cells #[.int .i64 y0, .int .i64 y1, .int .i64 y2, .int .i64 y3, .int .i64 y4] 41 (0, 0)) ∧ Below base w (w.setCells g 0 [.int .i64 y0, .int .i64 y1, .int .i64 y2, .int .i64 y3, .int .i64 y4]) :=
  ⟨heap_setCells_mid (A := []) (B := [.int .i64 x0, .int .i64 x1, .int .i64 x2, .int .i64 x3, .int .i64 x4]) (C := []) rfl rfl h,
    (turned_setCells (g := g) [.int .i64 y0, .int .i64 y1, .int .i64 y2, .int .i64 y3, .int .i64 y4] w 0).below (Nat.le_of_lt (Nat.lt_of_le_of_lt hb (Array.getElem?_eq_some_iff.1 h).1)) (fun k hk => by omega)⟩
theorem stS_four (wd : ByteArray) (ws : List ByteArray) : ∀ (i : Nat) (xs : List Int), stS wd ws i = some xs → ∃ a b c d, xs = [a, b, c, d]
  | 0, xs, h => by
    rw [stS] at h
    cases h
    exact ⟨_, _, _, _, rfl⟩
  | i + 1, xs, h => by
    rw [stS] at h
    cases h1 : stS wd ws i with
    | none => rw [h1] at h; cases h
    | some ys =>
      obtain ⟨a, b, c, d, rfl⟩ := stS_four wd ws i ys h1
      rw [h1] at h
      simp only at h
      split at h
      · cases h
        have hk : kOf (chr wd i) = 0 ∨ kOf (chr wd i) = 1 ∨ kOf (chr wd i) = 2 ∨ kOf (chr wd i) = 3 := by
          unfold kOf
          split
          · exact .inl rfl
          · split
            · exact .inr (.inl rfl)
            · split
              · exact .inr (.inr (.inl rfl))
              · exact .inr (.inr (.inr rfl))
        rcases hk with e | e | e | e <;> rw [e] <;> exact ⟨_, _, _, _, rfl⟩
      · cases h
theorem stS_none (wd : ByteArray) (ws : List ByteArray) {i : Nat} (h : stS wd ws i = none) : ∀ {n : Nat}, i ≤ n → stS wd ws n = none := by
  intro n hn
  induction n with
  | zero => obtain rfl : i = 0 := by omega
            exact h
  | succ n ih =>
    by_cases he : i = n + 1
    · subst he; exact h
    · rw [stS, ih (by omega)]

set_option maxRecDepth 100000 in
set_option maxHeartbeats 8000000 in
theorem specReadMins_any (s : ByteArray) (w : World) :
    Calls Tryd.prog 17 #[.string s] w fun e w' => e = .returned (.tuple #[.agg (outV (if 40 < s.size then none else rmFind (cutS s) 22)).toArray, .bool (if 40 < s.size then none else rmFind (cutS s) 22).isSome]) ∧ Below w.heap.size w w' := by
  obtain ⟨R, hR⟩ : ∃ R, R = (if 40 < s.size then none else rmFind (cutS s) 22) := ⟨_, rfl⟩
  rw [← hR]
  have HRR := Lib.hid hR
  clear hR
  have hba : Below w.heap.size w (w.alloc (.cells #[.int .i64 0, .int .i64 0, .int .i64 0, .int .i64 0, .int .i64 0] 41)) := (Below.refl _ _).alloc (Nat.le_refl _) _
  have hA := heap_alloc_new w (.cells #[.int .i64 0, .int .i64 0, .int .i64 0, .int .i64 0, .int .i64 0] 41)
  have H0 := Lib.hid (And.intro hba hA)
  clear hba hA
  go_enter Tryd.func17, Tryd.ntmps17
  go_upto_region 1 with fail
  obtain ⟨q, hq⟩ : ∃ q, q = w.heap.size := ⟨_, rfl⟩
  generalize w.alloc (.cells #[.int .i64 0, .int .i64 0, .int .i64 0, .int .i64 0, .int .i64 0] 41) = W1 at H0 ⊢
  rw [← hq] at H0 ⊢
  have HQ := Lib.hid hq
  clear hq
  by_cases h40 : 40 < s.size
  · have HF := Lib.hid (HRR.out.trans (if_pos h40))
    have h40i : (40 : Int) < (s.size : Int) := by omega
    have r0 := cell_of_row _ _ 0 _ _ _ H0.out.2
    have z0 := frozen_of_row _ _ 0 _ _ H0.out.2
    have r1 := cell_of_row _ _ 1 _ _ _ H0.out.2
    have z1 := frozen_of_row _ _ 1 _ _ H0.out.2
    have r2 := cell_of_row _ _ 2 _ _ _ H0.out.2
    have z2 := frozen_of_row _ _ 2 _ _ H0.out.2
    have r3 := cell_of_row _ _ 3 _ _ _ H0.out.2
    have z3 := frozen_of_row _ _ 3 _ _ H0.out.2
    have r4 := cell_of_row _ _ 4 _ _ _ H0.out.2
    have z4 := frozen_of_row _ _ 4 _ _ H0.out.2
    simp only [List.getElem?_toArray, List.getElem?_cons_zero, List.getElem?_cons_succ] at r0 r1 r2 r3 r4
    go_wp2
    obtain ⟨hp, hbp⟩ := put_mins (y0 := 0) (y1 := 0) (y2 := 0) (y3 := 0) (y4 := 0) H0.out.2 (base := w.heap.size) (by have := HQ.out; omega)
    refine bodyPost_ret (results_form rfl _ _ q 41 #[.int .i64 0, .int .i64 0, .int .i64 0, .int .i64 0, .int .i64 0] (0, 0) _ rfl hp Tryd.underlying41 rfl (by kernel_rfl)) rfl ?_
    rw [HF.out]
    exact ⟨rfl, (HQ.out ▸ H0.out.1).trans hbp⟩
  · have hR2 := HRR.out.trans (if_neg h40)
    clear HRR
    have h40i : ¬ (40 : Int) < (s.size : Int) := by omega
    go_wp2_with fail
    refine (l22Cut_any s W1 (by omega)).mono ?_
    rintro e w2 ⟨la, lc, rfl, hS, hb2⟩
    have hne := cutS_ne s
    generalize cutS s = ws at hS hne hR2 ⊢
    have HRR := Lib.hid hR2
    clear hR2
    have H2 := Lib.hid (And.intro hS (And.intro ((HQ.out ▸ H0.out.1 : Below w.heap.size w W1).trans (hb2.mono (by have := H0.out.1.size; have := HQ.out; omega))) ((hb2.block _ (Array.getElem?_eq_some_iff.1 H0.out.2).1).trans H0.out.2)))
    clear hS hb2 H0 h40 h40i
    go_wp2_with fail
    go_loopg [5] 22 (fun G i wr => ∃ k : Nat, k + G = 23 ∧ i = .int .i64 k ∧ 1 ≤ k ∧ Hid (Below w2.heap.size w2 wr ∧ rmFind ws 22 = rmFind ws (23 - k)))
    case atStart => exact ⟨1, by omega, rfl, by omega, Lib.hid ⟨Below.refl _ _, rfl⟩⟩
    case round =>
      obtain ⟨k, hk, rfl, hk1, HR⟩ := hrel
      by_cases hlt : k ≤ 22
      · have hki : (k : Int) ≤ 22 := by omega
        have hunf : rmFind ws 22 = rmFind ws ((22 - k) + 1) := HR.out.2.trans (by congr 1; omega)
        rw [rmFind.eq_2 ws (22 - k), show 22 - (22 - k) = k by omega] at hunf
        have HU := Lib.hid hunf
        clear hunf
        go_wp2_with fail
        refine (l22WordB_any k hk1 hlt wr).mono ?_
        rintro e w3 ⟨rfl, hb3⟩
        have H3 := Lib.hid (And.intro (HR.out.1.trans (hb3.mono HR.out.1.size)) HU.out)
        clear hb3 HU
        have hwd3 : (wordL.getD k ⟨#[]⟩).size ≤ 3 := by
          rcases words_vals k (by omega) hk1 with ⟨e, _⟩ | ⟨e, _⟩ | ⟨e, _⟩ | ⟨e, _⟩ | ⟨e, _⟩ <;> rw [e] <;> decide
        obtain ⟨nm, hnm⟩ : ∃ nm, nm = nameL.getD k ⟨#[]⟩ := ⟨_, rfl⟩
        obtain ⟨wd, hwd⟩ : ∃ wd, wd = wordL.getD k ⟨#[]⟩ := ⟨_, rfl⟩
        rw [← hnm, ← hwd] at H3
        rw [← hwd] at hwd3
        rw [← hnm, ← hwd]
        clear hnm hwd
        have hS3 := H2.out.1.later H3.out.1
        obtain ⟨lb, lo, rfl, l0⟩ := hS3.place (show 0 < ws.length by omega)
        rw [Nat.add_zero] at l0
        have hni : (0 : Int) < (ws.length : Int) := by omega
        have HS3 := Lib.hid hS3
        clear hS3
        by_cases hnm : nm = ws.getD 0 ⟨#[]⟩
        · have hne1 : (nm.toList == (ws.getD 0 ⟨#[]⟩).toList) = true := str_eq.2 hnm
          by_cases hlen : ws.length = wd.size + 1
          · have hle1 : ((ws.length : Int) == (wd.size : Int) + 1) = true := by simp; omega
            have hle2 : ((ws.length : Int) != (wd.size : Int) + 1) = false := by rw [bne, hle1]; rfl
            have HF := Lib.hid (show rmFind ws 22 = (stS wd ws wd.size).map (fun xs => (k, xs)) by rw [H3.out.2, if_pos ⟨hnm, hlen⟩])
            generalize ws.getD 0 ⟨#[]⟩ = w0 at l0 hne1
            have hba : Below w3.heap.size w3 (w3.alloc (.cells #[.int .i64 (k : Int), .int .i64 0, .int .i64 0, .int .i64 0, .int .i64 0] 41)) := (Below.refl _ _).alloc (Nat.le_refl _) _
            have HX := Lib.hid (And.intro hba (heap_alloc_new w3 (.cells #[.int .i64 (k : Int), .int .i64 0, .int .i64 0, .int .i64 0, .int .i64 0] 41)))
            have HLEN := Lib.hid hlen
            clear hba hnm hlen
            go_wp2_with fail
            generalize w3.alloc (.cells #[.int .i64 (k : Int), .int .i64 0, .int .i64 0, .int .i64 0, .int .i64 0] 41) = W4 at HX ⊢
            obtain ⟨x, hx⟩ : ∃ x, x = w3.heap.size := ⟨_, rfl⟩
            rw [← hx] at HX ⊢
            have HXQ := Lib.hid hx
            clear hx hne1 hle1 hle2 l0
            go_loopg [9] wd.size (fun G i wq => ∃ (j : Nat) (x0 x1 x2 x3 : Int), j + G = wd.size ∧ i = .int .i64 j ∧ Hid (Below x w3 wq ∧ stS wd ws j = some [x0, x1, x2, x3] ∧ wq.heap[x]? = some (.cells #[.int .i64 (k : Int), .int .i64 x0, .int .i64 x1, .int .i64 x2, .int .i64 x3] 41 (0, 0))))
            case atStart => exact ⟨0, 0, 0, 0, 0, by omega, rfl, Lib.hid ⟨HX.out.1, rfl, HX.out.2⟩⟩
            case round =>
              rename World => wq
              obtain ⟨j, x0, x1, x2, x3, hj, rfl, HI⟩ := hrel
              have hxw : x < wq.heap.size := (Array.getElem?_eq_some_iff.1 HI.out.2.2).1
              have HXL := Lib.hid hxw
              clear hxw
              by_cases hltj : j < wd.size
              · have hji : (j : Int) < (wd.size : Int) := by omega
                have hji2 : (j : Int) + 1 < (ws.length : Int) := by have := HLEN.out; omega
                obtain ⟨lb', lo', hla, lj⟩ := (HS3.out.later (by rw [← HXQ.out]; exact HI.out.1)).place (show j + 1 < ws.length by have := HLEN.out; omega)
                cases hla
                have hjx : ∀ W, (Instr.index 9 (.string wd) (.int .i64 (j : Int))).run Tryd.prog W = .ok (.int .u8 (chr wd j)) W := fun W => idx_str wd j hltj W
                have HST := Lib.hid (show stS wd ws (j + 1) = if 0 ≤ numB (ws.getD (j + 1) ⟨#[]⟩) then some ([x0, x1, x2, x3].set (kOf (chr wd j)) (numB (ws.getD (j + 1) ⟨#[]⟩))) else none by rw [stS, HI.out.2.1])
                generalize ws.getD (j + 1) ⟨#[]⟩ = wj at lj HST
                go_wp2_with fail
                refine (l22Num_any wj wq).mono ?_
                rintro e w5 ⟨rfl, hb5⟩
                have H5 := Lib.hid (And.intro (HI.out.1.trans (hb5.mono (Nat.le_of_lt HXL.out))) ((hb5.block _ HXL.out).trans HI.out.2.2))
                clear hb5 lj
                generalize numB wj = v at HST ⊢
                by_cases hv : v < 0
                · have HN := Lib.hid (show R = none from HRR.out.trans (HF.out.trans (by rw [stS_none wd ws (HST.out.trans (if_neg (by omega))) hltj]; rfl)))
                  have hq2 : q < w2.heap.size := (Array.getElem?_eq_some_iff.1 H2.out.2.2).1
                  have hq3 : q < x := by have := H3.out.1.size; have := HXQ.out; omega
                  have HRW := Lib.hid ((H5.out.1.block _ hq3).trans ((H3.out.1.block _ hq2).trans H2.out.2.2))
                  have HBB := Lib.hid ((H2.out.2.1.trans (H3.out.1.mono H2.out.2.1.size)).trans (H5.out.1.mono (show w.heap.size ≤ x by have := H3.out.1.size; have := H2.out.2.1.size; have := HXQ.out; omega)))
                  have r0 := cell_of_row _ _ 0 _ _ _ HRW.out
                  have z0 := frozen_of_row _ _ 0 _ _ HRW.out
                  have r1 := cell_of_row _ _ 1 _ _ _ HRW.out
                  have z1 := frozen_of_row _ _ 1 _ _ HRW.out
                  have r2 := cell_of_row _ _ 2 _ _ _ HRW.out
                  have z2 := frozen_of_row _ _ 2 _ _ HRW.out
                  have r3 := cell_of_row _ _ 3 _ _ _ HRW.out
                  have z3 := frozen_of_row _ _ 3 _ _ HRW.out
                  have r4 := cell_of_row _ _ 4 _ _ _ HRW.out
                  have z4 := frozen_of_row _ _ 4 _ _ HRW.out
                  simp only [List.getElem?_toArray, List.getElem?_cons_zero, List.getElem?_cons_succ] at r0 r1 r2 r3 r4
                  clear hq2 hq3
                  go_wp2
                  obtain ⟨hp, hbp⟩ := put_mins (y0 := 0) (y1 := 0) (y2 := 0) (y3 := 0) (y4 := 0) HRW.out (base := w.heap.size) (by have := HQ.out; omega)
                  refine bodyPost_ret (results_form rfl _ _ q 41 #[.int .i64 0, .int .i64 0, .int .i64 0, .int .i64 0, .int .i64 0] (0, 0) _ rfl hp Tryd.underlying41 rfl (by kernel_rfl)) rfl ?_
                  rw [HN.out]
                  exact ⟨rfl, HBB.out.trans hbp⟩
                · have HSV := Lib.hid (show stS wd ws (j + 1) = some ([x0, x1, x2, x3].set (kOf (chr wd j)) v) from HST.out.trans (if_pos (by omega)))
                  clear HST HI
                  cases c65 : (chr wd j == 65) with
                  | true =>
                    have HKO := Lib.hid (show kOf (chr wd j) = 0 by rw [kOf, if_pos (by simpa using c65)])
                    have HSK := Lib.hid (show stS wd ws (j + 1) = some [v, x1, x2, x3] by rw [HSV.out, HKO.out]; rfl)
                    have e1 := cell_of_row _ _ 1 _ _ _ H5.out.2
                    have y1 := frozen_of_row _ _ 1 _ _ H5.out.2
                    simp only [List.getElem?_toArray, List.getElem?_cons_zero, List.getElem?_cons_succ] at e1
                    have HRX := Lib.hid (show (w5.setCell ⟨x, 1, none⟩ (.int .i64 v)).heap[x]? = some (.cells #[.int .i64 (k : Int), .int .i64 v, .int .i64 x1, .int .i64 x2, .int .i64 x3] 41 (0, 0)) by
                      rw [heap_setCell_same w5 x 1 _ _ _ H5.out.2]; rfl)
                    have HBX := Lib.hid (H5.out.1.trans ((turned_store w5 x 1 (.int .i64 v)).below (B := x) (Nat.le_of_lt (Array.getElem?_eq_some_iff.1 H5.out.2).1) (fun k hk => by omega)))
                    go_wp2
                    go_roundg (wd.size - (j + 1))
                    case measure => omega
                    case rel => exact ⟨j + 1, v, x1, x2, x3, by omega, by go_num, Lib.hid ⟨HBX.out, HSK.out, HRX.out⟩⟩
                  | false =>
                    cases c66 : (chr wd j == 66) with
                    | true =>
                      have HKO := Lib.hid (show kOf (chr wd j) = 1 by rw [kOf, if_neg (by simpa using c65), if_pos (by simpa using c66)])
                      have HSK := Lib.hid (show stS wd ws (j + 1) = some [x0, v, x2, x3] by rw [HSV.out, HKO.out]; rfl)
                      have e2 := cell_of_row _ _ 2 _ _ _ H5.out.2
                      have y2 := frozen_of_row _ _ 2 _ _ H5.out.2
                      simp only [List.getElem?_toArray, List.getElem?_cons_zero, List.getElem?_cons_succ] at e2
                      have HRX := Lib.hid (show (w5.setCell ⟨x, 2, none⟩ (.int .i64 v)).heap[x]? = some (.cells #[.int .i64 (k : Int), .int .i64 x0, .int .i64 v, .int .i64 x2, .int .i64 x3] 41 (0, 0)) by
                        rw [heap_setCell_same w5 x 2 _ _ _ H5.out.2]; rfl)
                      have HBX := Lib.hid (H5.out.1.trans ((turned_store w5 x 2 (.int .i64 v)).below (B := x) (Nat.le_of_lt (Array.getElem?_eq_some_iff.1 H5.out.2).1) (fun k hk => by omega)))
                      go_wp2
                      go_roundg (wd.size - (j + 1))
                      case measure => omega
                      case rel => exact ⟨j + 1, x0, v, x2, x3, by omega, by go_num, Lib.hid ⟨HBX.out, HSK.out, HRX.out⟩⟩
                    | false =>
                      cases c67 : (chr wd j == 67) with
                      | true =>
                        have HKO := Lib.hid (show kOf (chr wd j) = 2 by rw [kOf, if_neg (by simpa using c65), if_neg (by simpa using c66), if_pos (by simpa using c67)])
                        have HSK := Lib.hid (show stS wd ws (j + 1) = some [x0, x1, v, x3] by rw [HSV.out, HKO.out]; rfl)
                        have e3 := cell_of_row _ _ 3 _ _ _ H5.out.2
                        have y3 := frozen_of_row _ _ 3 _ _ H5.out.2
                        simp only [List.getElem?_toArray, List.getElem?_cons_zero, List.getElem?_cons_succ] at e3
                        have HRX := Lib.hid (show (w5.setCell ⟨x, 3, none⟩ (.int .i64 v)).heap[x]? = some (.cells #[.int .i64 (k : Int), .int .i64 x0, .int .i64 x1, .int .i64 v, .int .i64 x3] 41 (0, 0)) by
                          rw [heap_setCell_same w5 x 3 _ _ _ H5.out.2]; rfl)
                        have HBX := Lib.hid (H5.out.1.trans ((turned_store w5 x 3 (.int .i64 v)).below (B := x) (Nat.le_of_lt (Array.getElem?_eq_some_iff.1 H5.out.2).1) (fun k hk => by omega)))
                        go_wp2
                        go_roundg (wd.size - (j + 1))
                        case measure => omega
                        case rel => exact ⟨j + 1, x0, x1, v, x3, by omega, by go_num, Lib.hid ⟨HBX.out, HSK.out, HRX.out⟩⟩
                      | false =>
                        have HKO := Lib.hid (show kOf (chr wd j) = 3 by rw [kOf, if_neg (by simpa using c65), if_neg (by simpa using c66), if_neg (by simpa using c67)])
                        have HSK := Lib.hid (show stS wd ws (j + 1) = some [x0, x1, x2, v] by rw [HSV.out, HKO.out]; rfl)
                        have e4 := cell_of_row _ _ 4 _ _ _ H5.out.2
                        have y4 := frozen_of_row _ _ 4 _ _ H5.out.2
                        simp only [List.getElem?_toArray, List.getElem?_cons_zero, List.getElem?_cons_succ] at e4
                        have HRX := Lib.hid (show (w5.setCell ⟨x, 4, none⟩ (.int .i64 v)).heap[x]? = some (.cells #[.int .i64 (k : Int), .int .i64 x0, .int .i64 x1, .int .i64 x2, .int .i64 v] 41 (0, 0)) by
                          rw [heap_setCell_same w5 x 4 _ _ _ H5.out.2]; rfl)
                        have HBX := Lib.hid (H5.out.1.trans ((turned_store w5 x 4 (.int .i64 v)).below (B := x) (Nat.le_of_lt (Array.getElem?_eq_some_iff.1 H5.out.2).1) (fun k hk => by omega)))
                        go_wp2
                        go_roundg (wd.size - (j + 1))
                        case measure => omega
                        case rel => exact ⟨j + 1, x0, x1, x2, v, by omega, by go_num, Lib.hid ⟨HBX.out, HSK.out, HRX.out⟩⟩
              · obtain rfl : j = wd.size := by omega
                have HN := Lib.hid (show R = some (k, [x0, x1, x2, x3]) from HRR.out.trans (HF.out.trans (by rw [HI.out.2.1]; rfl)))
                have hq2 : q < w2.heap.size := (Array.getElem?_eq_some_iff.1 H2.out.2.2).1
                have hq3 : q < x := by have := H3.out.1.size; have := HXQ.out; omega
                have HRW := Lib.hid ((HI.out.1.block _ hq3).trans ((H3.out.1.block _ hq2).trans H2.out.2.2))
                have HBB := Lib.hid ((H2.out.2.1.trans (H3.out.1.mono H2.out.2.1.size)).trans (HI.out.1.mono (show w.heap.size ≤ x by have := H3.out.1.size; have := H2.out.2.1.size; have := HXQ.out; omega)))
                have r0 := cell_of_row _ _ 0 _ _ _ HRW.out
                have z0 := frozen_of_row _ _ 0 _ _ HRW.out
                have r1 := cell_of_row _ _ 1 _ _ _ HRW.out
                have z1 := frozen_of_row _ _ 1 _ _ HRW.out
                have r2 := cell_of_row _ _ 2 _ _ _ HRW.out
                have z2 := frozen_of_row _ _ 2 _ _ HRW.out
                have r3 := cell_of_row _ _ 3 _ _ _ HRW.out
                have z3 := frozen_of_row _ _ 3 _ _ HRW.out
                have r4 := cell_of_row _ _ 4 _ _ _ HRW.out
                have z4 := frozen_of_row _ _ 4 _ _ HRW.out
                simp only [List.getElem?_toArray, List.getElem?_cons_zero, List.getElem?_cons_succ] at r0 r1 r2 r3 r4
                have e0 := cell_of_row _ _ 0 _ _ _ HI.out.2.2
                have y0 := frozen_of_row _ _ 0 _ _ HI.out.2.2
                have e1 := cell_of_row _ _ 1 _ _ _ HI.out.2.2
                have y1 := frozen_of_row _ _ 1 _ _ HI.out.2.2
                have e2 := cell_of_row _ _ 2 _ _ _ HI.out.2.2
                have y2 := frozen_of_row _ _ 2 _ _ HI.out.2.2
                have e3 := cell_of_row _ _ 3 _ _ _ HI.out.2.2
                have y3 := frozen_of_row _ _ 3 _ _ HI.out.2.2
                have e4 := cell_of_row _ _ 4 _ _ _ HI.out.2.2
                have y4 := frozen_of_row _ _ 4 _ _ HI.out.2.2
                simp only [List.getElem?_toArray, List.getElem?_cons_zero, List.getElem?_cons_succ] at e0 e1 e2 e3 e4
                clear hq2 hq3
                go_wp2
                obtain ⟨hp, hbp⟩ := put_mins (y0 := (k : Int)) (y1 := x0) (y2 := x1) (y3 := x2) (y4 := x3) HRW.out (base := w.heap.size) (by have := HQ.out; omega)
                refine bodyPost_ret (results_form rfl _ _ q 41 #[.int .i64 (k : Int), .int .i64 x0, .int .i64 x1, .int .i64 x2, .int .i64 x3] (0, 0) _ rfl hp Tryd.underlying41 rfl (by kernel_rfl)) rfl ?_
                rw [HN.out]
                exact ⟨rfl, HBB.out.trans hbp⟩
          · have hle1 : ((ws.length : Int) == (wd.size : Int) + 1) = false := by simp; omega
            have HF := Lib.hid (show rmFind ws 22 = rmFind ws (22 - k) by rw [H3.out.2, if_neg (fun h => hlen h.2)])
            generalize ws.getD 0 ⟨#[]⟩ = w0 at l0 hne1
            clear hnm hlen
            go_wp2
            go_roundg (gk - 1)
            case measure => omega
            case rel => exact ⟨k + 1, by omega, by go_num, by omega, Lib.hid ⟨H3.out.1, by rw [HF.out]; congr 1; omega⟩⟩
        · have hne1 : (nm.toList == (ws.getD 0 ⟨#[]⟩).toList) = false := str_ne hnm
          have HF := Lib.hid (show rmFind ws 22 = rmFind ws (22 - k) by rw [H3.out.2, if_neg (fun h => hnm h.1)])
          generalize ws.getD 0 ⟨#[]⟩ = w0 at l0 hne1
          clear hnm
          go_wp2
          go_roundg (gk - 1)
          case measure => omega
          case rel => exact ⟨k + 1, by omega, by go_num, by omega, Lib.hid ⟨H3.out.1, by rw [HF.out]; congr 1; omega⟩⟩
      · obtain rfl : k = 23 := by omega
        have hq2 : q < w2.heap.size := (Array.getElem?_eq_some_iff.1 H2.out.2.2).1
        have hrow := (HR.out.1.block _ hq2).trans H2.out.2.2
        have HRW := Lib.hid hrow
        have r0 := cell_of_row _ _ 0 _ _ _ HRW.out
        have z0 := frozen_of_row _ _ 0 _ _ HRW.out
        have r1 := cell_of_row _ _ 1 _ _ _ HRW.out
        have z1 := frozen_of_row _ _ 1 _ _ HRW.out
        have r2 := cell_of_row _ _ 2 _ _ _ HRW.out
        have z2 := frozen_of_row _ _ 2 _ _ HRW.out
        have r3 := cell_of_row _ _ 3 _ _ _ HRW.out
        have z3 := frozen_of_row _ _ 3 _ _ HRW.out
        have r4 := cell_of_row _ _ 4 _ _ _ HRW.out
        have z4 := frozen_of_row _ _ 4 _ _ HRW.out
        simp only [List.getElem?_toArray, List.getElem?_cons_zero, List.getElem?_cons_succ] at r0 r1 r2 r3 r4
        have HF := Lib.hid (show R = none from HRR.out.trans HR.out.2)
        clear hrow hq2
        go_wp2
        obtain ⟨hp, hbp⟩ := put_mins (y0 := 0) (y1 := 0) (y2 := 0) (y3 := 0) (y4 := 0) HRW.out (base := w.heap.size) (by have := HQ.out; omega)
        refine bodyPost_ret (results_form rfl _ _ q 41 #[.int .i64 0, .int .i64 0, .int .i64 0, .int .i64 0, .int .i64 0] (0, 0) _ rfl hp Tryd.underlying41 rfl (by kernel_rfl)) rfl ?_
        rw [HF.out]
        exact ⟨rfl, (H2.out.2.1.trans (HR.out.1.mono H2.out.2.1.size)).trans hbp⟩

end Go.Proofs.YtdkafajmhgfkoaaDoor
