
/-
  Expressions: the program's exprSize.
-/
import Derived.Test.YtccfbnhlhjlmgaaDoorEx
import Derived.Deep.DeepCutAuto
import Derived.Deep.CutBlock
import Derived.Deep.RegionLaw
namespace Go.Proofs.YtccfbnhlhjlmgaaDoor
open Go.RowKit

theorem withinE_any (x lo hi : Int) (w : World) : Calls Tryd.prog 59 #[.int .i64 x, .int .i64 lo, .int .i64 hi] w fun e w' => e = .returned (.bool (inE lo x hi)) ∧ w' = w := by
  unfold inE
  by_cases h1 : lo ≤ x
  · have d1 : decide (lo ≤ x) = true := decide_eq_true h1
    by_cases h2 : x ≤ hi
    · have d2 : decide (x ≤ hi) = true := decide_eq_true h2
      rw [d1, d2]
      go_enter Tryd.func59, Tryd.ntmps59
      go_wp2
      go_ret
      exact ⟨rfl, rfl⟩
    · have d2 : decide (x ≤ hi) = false := decide_eq_false h2
      rw [d1, d2]
      go_enter Tryd.func59, Tryd.ntmps59
      go_wp2
      go_ret
      exact ⟨rfl, rfl⟩
  · have d1 : decide (lo ≤ x) = false := decide_eq_false h1
    rw [d1]
    go_enter Tryd.func59, Tryd.ntmps59
    go_wp2
    go_ret
    exact ⟨rfl, rfl⟩
theorem isByteE_any (x : Int) (w : World) : Calls Tryd.prog 57 #[.int .i64 x] w fun e w' => e = .returned (.bool (inE 0 x 255)) ∧ w' = w := by
  go_enter Tryd.func57, Tryd.ntmps57
  go_wp2_with fail
  refine (withinE_any x 0 255 w).mono ?_
  rintro e w1 ⟨rfl, rfl⟩
  go_wp2
  go_ret
  exact ⟨rfl, rfl⟩
theorem withinE_is {x lo hi : Int} {b : Bool} (h : inE lo x hi = b) (w : World) : Calls Tryd.prog 59 #[.int .i64 x, .int .i64 lo, .int .i64 hi] w fun e w' => e = .returned (.bool b) ∧ w' = w := by rw [← h]; exact withinE_any x lo hi w
theorem isByteE_is {x : Int} {b : Bool} (h : inE 0 x 255 = b) (w : World) : Calls Tryd.prog 57 #[.int .i64 x] w fun e w' => e = .returned (.bool b) ∧ w' = w := by rw [← h]; exact isByteE_any x w

theorem field_lvl (s : ByteArray) (v : Int) (w : World) : (Instr.field 148 (.agg #[.string s, .int .i64 v]) 1).run Tryd.prog w = .ok (.int .i64 v) w := by kernel_rfl
theorem lvl_range (op : Int) : 0 ≤ lvl op ∧ lvl op ≤ 4 := by
  unfold lvl
  repeat' split
  all_goals omega
set_option maxRecDepth 100000 in
theorem levelOf_any (op : Int) (w : World) (hop : -9223372036854775808 ≤ op ∧ op ≤ 9223372036854775807) (hO : OpsAt w) :
    Calls Tryd.prog 135 #[.int .i64 op] w fun e w' => e = .returned (.int .i64 (levelI op)) ∧ w' = w := by
  obtain ⟨bm, o, c1, hbm, hl⟩ := hO
  obtain ⟨s, hlk⟩ := hl w hbm op hop
  have HO := Lib.hid hbm
  clear hbm hl
  have hr := lvl_range op
  have hfl := field_lvl s (lvl op) w
  go_enter Tryd.func135, Tryd.ntmps135
  by_cases h0 : 0 < lvl op
  · have HL := Lib.hid (show levelI op = lvl op by rw [levelI, if_pos h0])
    generalize lvl op = v at h0 hr hlk hfl HL
    go_wp2
    go_ret
    exact ⟨ret_int HL.out.symm, rfl⟩
  · by_cases h1 : op = 11
    · have HL := Lib.hid (show levelI op = 5 by rw [levelI, if_neg h0, if_pos (.inl h1)])
      generalize lvl op = v at h0 hr hlk hfl
      subst h1
      go_wp2
      go_ret
      exact ⟨ret_int HL.out.symm, rfl⟩
    · by_cases h2 : op = 12
      · have HL := Lib.hid (show levelI op = 5 by rw [levelI, if_neg h0, if_pos (.inr h2)])
        generalize lvl op = v at h0 hr hlk hfl
        subst h2
        go_wp2
        go_ret
        exact ⟨ret_int HL.out.symm, rfl⟩
      · have HL := Lib.hid (show levelI op = 6 by rw [levelI, if_neg h0, if_neg (by omega)])
        have e1 : (op == 11) = false := by simpa using h1
        have e2 : (op == 12) = false := by simpa using h2
        generalize lvl op = v at h0 hr hlk hfl
        clear h1 h2
        go_wp2
        go_ret
        exact ⟨ret_int HL.out.symm, rfl⟩

end Go.Proofs.YtccfbnhlhjlmgaaDoor
