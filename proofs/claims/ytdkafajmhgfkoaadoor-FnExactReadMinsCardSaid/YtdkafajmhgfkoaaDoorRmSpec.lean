
/-
  ReadMins, the reference's.
-/
import Derived.Test.YtdkafajmhgfkoaaDoorRmCut
import Derived.Test.YtdkafajmhgfkoaaDoorMv5
import Derived.Deep.DeepCutAuto
import Derived.Deep.CutBlock
namespace Go.Proofs.YtdkafajmhgfkoaaDoor
open Go.RowKit

theorem str_eq {a b : ByteArray} : (a.toList == b.toList) = true ↔ a = b := by
  rw [beq_iff_eq, Lib.toList_data, Lib.toList_data]
  constructor
  · intro h
    have : a.data = b.data := Array.toList_inj.1 h
    cases a; cases b
    cases this
    rfl
  · rintro rfl; rfl
theorem str_ne {a b : ByteArray} (h : a ≠ b) : (a.toList == b.toList) = false := by
  cases hh : (a.toList == b.toList) with
  | false => rfl
  | true => exact absurd (str_eq.1 hh) h

set_option maxRecDepth 100000 in
set_option maxHeartbeats 4000000 in
theorem l22WordB_any (n : Nat) (hn1 : 1 ≤ n) (hn2 : n ≤ 22) (w : World) :
    Calls Tryd.prog 32 #[.int .i64 (n : Int)] w fun e w' => e = .returned (.tuple #[.string (nameL.getD n ⟨#[]⟩), .string (wordL.getD n ⟨#[]⟩)]) ∧ Below w.heap.size w w' := by
  go_enter Tryd.func32, Tryd.ntmps32
  go_upto_region 3 with fail
  have hba : Below w.heap.size w ((w.alloc (.cells (nameL.map Value.string).toArray 9)).alloc (.cells (wordL.map Value.string).toArray 9)) := ((Below.refl _ _).alloc (Nat.le_refl _) _).alloc (by simp) _
  have h1 := heap_alloc2_old w (.cells (nameL.map Value.string).toArray 9) (.cells (wordL.map Value.string).toArray 9)
  have h2 := heap_alloc2_new w (.cells (nameL.map Value.string).toArray 9) (.cells (wordL.map Value.string).toArray 9)
  change Code.wp _ _ _ _ ((w.alloc (.cells (nameL.map Value.string).toArray 9)).alloc (.cells (wordL.map Value.string).toArray 9))
  generalize (w.alloc (.cells (nameL.map Value.string).toArray 9)).alloc (.cells (wordL.map Value.string).toArray 9) = W1 at hba h1 h2 ⊢
  have HB := Lib.hid hba
  have HO := Lib.hid (show inR 1 (n : Int) 22 = true by simp [inR]; omega)
  have c1 : W1.cell? ⟨w.heap.size, n, none⟩ = some (.string (nameL.getD n ⟨#[]⟩)) := by rw [cell_of_row _ _ n _ _ _ h1, strs_get _ _ (show n < 23 by omega)]
  have c2 : W1.cell? ⟨w.heap.size + 1, n, none⟩ = some (.string (wordL.getD n ⟨#[]⟩)) := by rw [cell_of_row _ _ n _ _ _ h2, strs_get _ _ (show n < 23 by omega)]
  have hni : (n : Int) < 23 := by omega
  clear h1 h2 hba
  obtain ⟨nm, hnm⟩ : ∃ nm, nm = nameL.getD n ⟨#[]⟩ := ⟨_, rfl⟩
  obtain ⟨wd, hwd⟩ : ∃ wd, wd = wordL.getD n ⟨#[]⟩ := ⟨_, rfl⟩
  rw [← hnm] at c1
  rw [← hwd] at c2
  have HP := Lib.hid (And.intro hnm hwd)
  clear hnm hwd
  go_wp2_with fail
  refine (l1InM_is HO.out _).mono ?_
  rintro e w2 ⟨rfl, rfl⟩
  go_wp2_with fail
  go_quiet (fail)
  go_wp2
  refine bodyPost_ret (results_tmp2 rfl _ _ _) rfl ?_
  exact ⟨by rw [← HP.out.1, ← HP.out.2]; rfl, below_drewN HB.out _⟩

theorem valB_bound {s : ByteArray} {k : Nat} (hk : k ≤ 4) (h : allK (digAt s) k = true) : 0 ≤ valB s k ∧ valB s k ≤ 9999 := by
  have hv := valB_lt h
  have h4 : k = 0 ∨ k = 1 ∨ k = 2 ∨ k = 3 ∨ k = 4 := by omega
  rcases h4 with e | e | e | e | e <;> rw [e] at hv ⊢ <;> omega
theorem numB_of {s : ByteArray} (h : headB s = true) (hd : allK (digAt s) s.size = true) : numB s = valB s s.size := by rw [numB, h, hd]; rfl
theorem numB_no {s : ByteArray} {j : Nat} (hj : j < s.size) (hd : digAt s j = false) : numB s = -1 := by
  unfold numB
  rw [if_neg]
  intro h
  rw [Bool.and_eq_true] at h
  rw [allK_at h.2 hj] at hd
  cases hd

set_option maxRecDepth 100000 in
set_option maxHeartbeats 2000000 in
theorem l22Num_any (s : ByteArray) (w : World) :
    Calls Tryd.prog 33 #[.string s] w fun e w' => e = .returned (.int .i64 (numB s)) ∧ Below w.heap.size w w' := by
  go_enter Tryd.func33, Tryd.ntmps33
  cases hr : inR 1 (s.size : Int) 4 with
  | false =>
    have HN := Lib.hid (show numB s = -1 by rw [numB, headB, hr]; rfl)
    go_wp2_with fail
    refine (l1InM_is hr _).mono ?_
    rintro e w2 ⟨rfl, rfl⟩
    clear hr
    go_wp2
    go_ret
    exact ⟨ret_int HN.out.symm, Below.refl _ _⟩
  | true =>
    have hsz : 1 ≤ s.size ∧ s.size ≤ 4 := by simp only [inR, Bool.and_eq_true, decide_eq_true_eq] at hr; omega
    have hjx0 : ∀ W, (Instr.index 9 (.string s) (.int .i64 0)).run Tryd.prog W = .ok (.int .u8 (chr s 0)) W := fun W => idx_str s 0 (by omega) W
    have hs0 : (0 : Int) < (s.size : Int) := by omega
    have HSZ := Lib.hid hsz
    go_wp2_with fail
    refine (l1InM_is hr _).mono ?_
    rintro e w2 ⟨rfl, rfl⟩
    by_cases hz : chr s 0 = 48 ∧ 1 < s.size
    · have HN := Lib.hid (show numB s = -1 by rw [numB, headB, hr, hz.1, decide_eq_true hz.2]; rfl)
      have hc : (chr s 0 == 48) = true := by simp [hz.1]
      have h1 : (1 : Int) < (s.size : Int) := by omega
      clear hr hz hsz
      go_wp2
      go_ret
      exact ⟨ret_int HN.out.symm, Below.refl _ _⟩
    · have HH := Lib.hid (show headB s = true by
        rw [headB, hr, Bool.true_and, Bool.not_eq_true', Bool.and_eq_false_iff]
        by_cases hc : chr s 0 = 48
        · exact .inr (decide_eq_false (fun h => hz ⟨hc, h⟩))
        · exact .inl (by simpa using hc))
      have hcc : ((chr s 0 == 48) = false) ∨ ((chr s 0 == 48) = true ∧ ¬ (1 : Int) < (s.size : Int)) := by
        by_cases hc : chr s 0 = 48
        · exact .inr ⟨by simp [hc], fun h => hz ⟨hc, by omega⟩⟩
        · exact .inl (by simpa using hc)
      clear hr hz
      rcases hcc with hc | ⟨hc, hcs⟩
      all_goals
        go_wp2_with fail
        clear hc hjx0
        go_loopg [3, 4] s.size (fun F n i wr => ∃ k : Nat, k + F = s.size ∧ i = .int .i64 k ∧ n = .int .i64 (valB s k) ∧ Hid (allK (digAt s) k = true) ∧ wr = w2)
        case atStart => exact ⟨0, by omega, rfl, rfl, Lib.hid rfl, rfl⟩
        case round =>
          obtain ⟨k, hk, rfl, rfl, HA, rfl⟩ := hrel
          by_cases hlt : k < s.size
          · have hki : (k : Int) < (s.size : Int) := by omega
            have hjx : ∀ W, (Instr.index 9 (.string s) (.int .i64 (k : Int))).run Tryd.prog W = .ok (.int .u8 (chr s k)) W := fun W => idx_str s k hlt W
            have hb := valB_bound (show k ≤ 4 by omega) HA.out
            by_cases h48 : chr s k < 48
            · have HN := Lib.hid (numB_no hlt (show digAt s k = false by simp [digAt]; omega))
              go_wp2
              go_ret
              exact ⟨ret_int HN.out.symm, Below.refl _ _⟩
            · by_cases h57 : 57 < chr s k
              · have HN := Lib.hid (numB_no hlt (show digAt s k = false by simp [digAt]; omega))
                go_wp2
                go_ret
                exact ⟨ret_int HN.out.symm, Below.refl _ _⟩
              · have HA2 := Lib.hid (allK_next HA.out (show digAt s k = true by simp [digAt]; omega))
                have HV := Lib.hid (show valB s (k + 1) = valB s k * 10 + (chr s k - 48) from rfl)
                have hw1 : IntKind.u8.wrap (chr s k - 48) = chr s k - 48 := IntWalk.u8_in _ (by omega)
                generalize valB s k = v at HV hb ⊢
                go_wp2
                go_roundg (gk - 1)
                case measure => omega
                case rel => exact ⟨k + 1, by omega, by go_num, int_of HV.out.symm, HA2, rfl⟩
          · obtain rfl : k = s.size := by omega
            have HN := Lib.hid (numB_of HH.out HA.out)
            go_wp2
            go_ret
            exact ⟨ret_int HN.out.symm, Below.refl _ _⟩

end Go.Proofs.YtdkafajmhgfkoaaDoor
