
/-
  ReadMins, the program's: a text is split at its blanks (the library's), the number of a text.
-/
import Derived.Test.YtdkafajmhgfkoaaDoorRmImpl
import Derived.Test.YtdkafajmhgfkoaaDoorRmSpec
import Derived.Test.YtdkafajmhgfkoaaDoorRmLays
import Derived.Lib.SmallJoins
namespace Go.Proofs.YtdkafajmhgfkoaaDoor
open Go.RowKit

theorem rowAt_laid (w : World) (cs : List Value) (t : TypeId) : RowAt (w.alloc (.cells cs.toArray t)) (some ⟨w.heap.size, 0, none⟩) cs :=
  .inr ⟨_, _, rfl, fun i v hv => by
    rw [cell_of_row _ _ (0 + i) _ _ _ (heap_alloc_new w (.cells cs.toArray t))]
    simpa using hv⟩
theorem atoi_any (s : ByteArray) (w : World) (h0 : 1 ≤ s.size) (h18 : s.size ≤ 18) (hd : allK (digAt s) s.size = true) :
    Calls Tryd.prog 50 #[.string s] w fun e w' => e = .returned (.tuple #[.int .i64 (valB s s.size), .nilIface]) ∧ Below w.heap.size w w' := by
  refine (Go.Proofs.Any.strconv_Atoi laysAtoi s (valB s s.size) h18 (atoi_val s h0 hd) w).mono ?_
  rintro e w' ⟨rfl, t, rfl⟩
  exact ⟨rfl, Go.Joins.below_bytesWorld _ _ _ _ (Nat.le_refl _)⟩

set_option maxHeartbeats 1000000 in
theorem split_any (s : ByteArray) (w : World) (hs : s.size ≤ 1048576) :
    Calls Tryd.prog 34 #[.string s, .string ⟨#[32]⟩] w fun e w' => e = .returned (.slice (some ⟨w.heap.size, 0, none⟩) (cutS s).length (cutS s).length) ∧ StrsRd w' (some ⟨w.heap.size, 0, none⟩) (cutS s).length (cutS s) ∧ Below w.heap.size w w' := by
  have h1 : 1 ≤ (⟨#[32]⟩ : ByteArray).size := by decide
  have hlen := Lib.splitB_all ⟨#[32]⟩ h1 0 _ s rfl
  have hle := Lib.countB_le ⟨#[32]⟩ h1 s.size s (Nat.le_refl _)
  have c := Go.Proofs.Any.strings_genSplit_core laysGs info_str s ⟨#[32]⟩ 0 (-1) (Lib.countB s ⟨#[32]⟩ + 1) w (by omega) h1 (Nat.zero_le _)
    (fun x c hx => by rw [show Lib.indexB x ⟨#[32]⟩ = Lib.indexByte x.data.toList 32 from Lib.index_one x.data.toList 32]; exact Go.Proofs.Any.strings_Index_one { laysGs with } x 32 _)
    (by rw [show Lib.countB s ⟨#[32]⟩ = Lib.countByte s.data.toList 32 from Lib.count_one 32 s.data.toList]; exact Go.Proofs.Any.strings_Count_one { laysGs with } s 32 w)
    (by decide) (by decide) (by rw [if_pos (by decide)]; omega)
  rw [Nat.add_sub_cancel, hlen] at c
  rw [splitB_cut] at hlen c
  have e2 : Lib.cellsOf (cutS s) (Lib.countB s ⟨#[32]⟩ + 1) = ((cutS s).map Value.string).toArray := by rw [← hlen]; exact Lib.cellsOf_full _
  rw [e2, ← hlen] at c
  have HC := Lib.hid c
  clear c e2 hlen hle
  go_enter Tryd.func34, Tryd.ntmps34
  go_wp2_with fail
  refine HC.out.mono ?_
  rintro e w' ⟨rfl, rfl⟩
  have HR := Lib.hid (And.intro (rowAt_laid w ((cutS s).map Value.string) 9) ((Below.refl w.heap.size w).alloc (Nat.le_refl _) (.cells ((cutS s).map Value.string).toArray 9)))
  go_wp2
  go_ret
  exact ⟨rfl, ⟨rfl, HR.out.1⟩, HR.out.2⟩

theorem decB_bad {s : ByteArray} (h : s.size = 0 ∨ 5 < s.size ∨ (1 < s.size ∧ chr s 0 = 48) ∨ allK (digAt s) s.size = false) : numB s = -1 := by
  rw [← decB_eq, decB, if_pos h]
theorem decB_big {s : ByteArray} (h : 9999 < valB s s.size) : numB s = -1 := by
  rw [← decB_eq, decB]
  split
  · rfl
  · rfl
theorem decB_fine {s : ByteArray} (h1 : ¬ (s.size = 0 ∨ 5 < s.size ∨ (1 < s.size ∧ chr s 0 = 48) ∨ allK (digAt s) s.size = false)) (h : ¬ 9999 < valB s s.size) : numB s = valB s s.size := by
  rw [← decB_eq, decB, if_neg h1, if_neg h]
theorem allK_false {p : Nat → Bool} {n j : Nat} (hj : j < n) (h : p j = false) : allK p n = false := by
  cases hh : allK p n with
  | false => rfl
  | true => rw [allK_at hh hj] at h; cases h

set_option maxRecDepth 100000 in
set_option maxHeartbeats 2000000 in
theorem decimal_any (s : ByteArray) (w : World) :
    Calls Tryd.prog 37 #[.string s, .int .i64 9999] w fun e w' => e = .returned (.int .i64 (numB s)) ∧ Below w.heap.size w w' := by
  go_enter Tryd.func37, Tryd.ntmps37
  by_cases h0 : s.size = 0
  · have HN := Lib.hid (decB_bad (.inl h0))
    have he : s.toList.isEmpty = true := by
      rw [Lib.toList_data, List.isEmpty_iff, ← List.length_eq_zero_iff, len_data]; exact h0
    clear h0
    go_wp2
    go_ret
    exact ⟨ret_int HN.out.symm, Below.refl _ _⟩
  · have he : s.toList.isEmpty = false := by
      rw [Lib.toList_data]
      cases hl : s.data.toList with
      | nil => have := len_data s; rw [hl] at this; simp at this; omega
      | cons _ _ => rfl
    by_cases h5 : 5 < s.size
    · have HN := Lib.hid (decB_bad (.inr (.inl h5)))
      have h5i : (5 : Int) < (s.size : Int) := by omega
      clear h5
      go_wp2
      go_ret
      exact ⟨ret_int HN.out.symm, Below.refl _ _⟩
    · have h5i : ¬ (5 : Int) < (s.size : Int) := by omega
      have hjx0 : ∀ W, (Instr.index 9 (.string s) (.int .i64 0)).run Tryd.prog W = .ok (.int .u8 (chr s 0)) W := fun W => idx_str s 0 (by omega) W
      have hs0 : (0 : Int) < (s.size : Int) := by omega
      have HSZ := Lib.hid (And.intro h0 h5)
      by_cases hz : 1 < s.size ∧ chr s 0 = 48
      · have HN := Lib.hid (decB_bad (.inr (.inr (.inl hz))))
        have hc : (chr s 0 == 48) = true := by simp [hz.2]
        have h1 : (1 : Int) < (s.size : Int) := by omega
        clear hz h5 h0
        go_wp2
        go_ret
        exact ⟨ret_int HN.out.symm, Below.refl _ _⟩
      · have hcc : (¬ (1 : Int) < (s.size : Int)) ∨ ((1 : Int) < (s.size : Int) ∧ (chr s 0 == 48) = false) := by
          by_cases h1 : 1 < s.size
          · exact .inr ⟨by omega, by simpa using fun h => hz ⟨h1, h⟩⟩
          · exact .inl (by omega)
        have HZ := Lib.hid hz
        clear hz h5 h0
        rcases hcc with hc | ⟨h1, hc⟩
        all_goals
          go_wp2_with fail
          clear hc hjx0
          go_loopg [27] s.size (fun F i wr => ∃ k : Nat, k + F = s.size ∧ i = .int .i64 k ∧ Hid (allK (digAt s) k = true) ∧ wr = w)
          case atStart => exact ⟨0, by omega, rfl, Lib.hid rfl, rfl⟩
          case round =>
            obtain ⟨k, hk, rfl, HA, rfl⟩ := hrel
            by_cases hlt : k < s.size
            · have hki : (k : Int) < (s.size : Int) := by omega
              have hjx : ∀ W, (Instr.index 9 (.string s) (.int .i64 (k : Int))).run Tryd.prog W = .ok (.int .u8 (chr s k)) W := fun W => idx_str s k hlt W
              go_wp2_with fail
              refine (isDigit_any s k _).mono ?_
              rintro e w3 ⟨rfl, rfl⟩
              cases hd : digAt s k with
              | false =>
                have HN := Lib.hid (decB_bad (s := s) (.inr (.inr (.inr (allK_false hlt hd)))))
                clear hd
                go_wp2
                go_ret
                exact ⟨ret_int HN.out.symm, Below.refl _ _⟩
              | true =>
                have HA2 := Lib.hid (allK_next HA.out hd)
                clear hd
                go_wp2
                go_roundg (gk - 1)
                case measure => omega
                case rel => exact ⟨k + 1, by omega, by go_num, HA2, rfl⟩
            · obtain rfl : k = s.size := by omega
              have HFN := Lib.hid (decB_fine (s := s) (by rw [HA.out]; simp only [not_or]; exact ⟨HSZ.out.1, HSZ.out.2, HZ.out, by simp⟩))
              have HBG := Lib.hid (decB_big (s := s))
              have HAT := Lib.hid (atoi_any s wr (by have := HSZ.out.1; omega) (by have := HSZ.out.2; omega) HA.out)
              generalize valB s s.size = v at HFN HBG HAT
              go_wp2_with fail
              refine HAT.out.mono ?_
              rintro e w3 ⟨rfl, hb3⟩
              have HB3 := Lib.hid hb3
              clear hb3
              by_cases hv : 9999 < v
              · have HN := Lib.hid (HBG.out hv)
                go_wp2
                go_ret
                exact ⟨ret_int HN.out.symm, HB3.out⟩
              · have HN := Lib.hid (HFN.out (by omega))
                go_wp2
                go_ret
                exact ⟨ret_int HN.out.symm, HB3.out⟩

end Go.Proofs.YtdkafajmhgfkoaaDoor
