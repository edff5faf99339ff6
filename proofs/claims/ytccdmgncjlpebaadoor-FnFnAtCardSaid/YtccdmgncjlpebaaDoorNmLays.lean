/-
  Expressions: the program's exprSize.
-/
import Derived.Test.YtccdmgncjlpebaaDoorEx
import Derived.Deep.DeepCutAuto
import Derived.Deep.CutBlock
import Derived.Deep.RegionLaw
import Derived.Test.YtccdmgncjlpebaaDoorCore
import Derived.Shelf.GgClosure.StringsIndexFunc

namespace Go.Proofs.YtccdmgncjlpebaaDoor
open Go.RowKit

theorem withinE_any (x lo hi : Int) (w : World) : Calls Tryd.prog 15 #[.int .i64 x, .int .i64 lo, .int .i64 hi] w fun e w' => e = .returned (.bool (inE lo x hi)) ∧ w' = w := by
  unfold inE
  by_cases h1 : lo ≤ x
  · have d1 : decide (lo ≤ x) = true := decide_eq_true h1
    by_cases h2 : x ≤ hi
    · have d2 : decide (x ≤ hi) = true := decide_eq_true h2
      rw [d1, d2]
      go_enter Tryd.func15, Tryd.ntmps15
      go_wp2
      go_ret
      exact ⟨rfl, rfl⟩
    · have d2 : decide (x ≤ hi) = false := decide_eq_false h2
      rw [d1, d2]
      go_enter Tryd.func15, Tryd.ntmps15
      go_wp2
      go_ret
      exact ⟨rfl, rfl⟩
  · have d1 : decide (lo ≤ x) = false := decide_eq_false h1
    rw [d1]
    go_enter Tryd.func15, Tryd.ntmps15
    go_wp2
    go_ret
    exact ⟨rfl, rfl⟩
theorem isByteE_any (x : Int) (w : World) : Calls Tryd.prog 60 #[.int .i64 x] w fun e w' => e = .returned (.bool (inE 0 x 255)) ∧ w' = w := by
  go_enter Tryd.func60, Tryd.ntmps60
  go_wp2_with fail
  refine (withinE_any x 0 255 w).mono ?_
  rintro e w1 ⟨rfl, rfl⟩
  go_wp2
  go_ret
  exact ⟨rfl, rfl⟩
theorem withinE_is {x lo hi : Int} {b : Bool} (h : inE lo x hi = b) (w : World) : Calls Tryd.prog 15 #[.int .i64 x, .int .i64 lo, .int .i64 hi] w fun e w' => e = .returned (.bool b) ∧ w' = w := by rw [← h]; exact withinE_any x lo hi w
theorem isByteE_is {x : Int} {b : Bool} (h : inE 0 x 255 = b) (w : World) : Calls Tryd.prog 60 #[.int .i64 x] w fun e w' => e = .returned (.bool b) ∧ w' = w := by rw [← h]; exact isByteE_any x w

theorem field_lvl (s : ByteArray) (v : Int) (w : World) : (Instr.field 92 (.agg #[.string s, .int .i64 v]) 1).run Tryd.prog w = .ok (.int .i64 v) w := by kernel_rfl
theorem lvl_range (op : Int) : 0 ≤ lvl op ∧ lvl op ≤ 4 := by
  unfold lvl
  repeat' split
  all_goals omega
set_option maxRecDepth 100000 in
theorem levelOf_any (op : Int) (w : World) (hop : -9223372036854775808 ≤ op ∧ op ≤ 9223372036854775807) (hO : OpsAt w) :
    Calls Tryd.prog 61 #[.int .i64 op] w fun e w' => e = .returned (.int .i64 (levelI op)) ∧ w' = w := by
  obtain ⟨bm, o, c1, hbm, hl⟩ := hO
  obtain ⟨s, hlk⟩ := hl w hbm op hop
  have HO := Lib.hid hbm
  clear hbm hl
  have hr := lvl_range op
  have hfl := field_lvl s (lvl op) w
  go_enter Tryd.func61, Tryd.ntmps61
  by_cases h0 : 0 < lvl op
  · have HL := Lib.hid (show levelI op = lvl op by rw [levelI, if_pos h0])
    generalize lvl op = v at h0 hr hlk hfl HL
    go_wp2
    go_ret
    exact ⟨ret_int HL.out.symm, rfl⟩
  · by_cases h1 : op = 11
    · have HL := Lib.hid (show levelI op = 5 by rw [levelI, if_neg h0, if_pos (.inl h1)])
      generalize lvl op = v at h0 hr hlk hfl
      subst h1
      go_wp2
      go_ret
      exact ⟨ret_int HL.out.symm, rfl⟩
    · by_cases h2 : op = 12
      · have HL := Lib.hid (show levelI op = 5 by rw [levelI, if_neg h0, if_pos (.inr h2)])
        generalize lvl op = v at h0 hr hlk hfl
        subst h2
        go_wp2
        go_ret
        exact ⟨ret_int HL.out.symm, rfl⟩
      · have HL := Lib.hid (show levelI op = 6 by rw [levelI, if_neg h0, if_neg (by omega)])
        have e1 : (op == 11) = false := by simpa using h1
        have e2 : (op == 12) = false := by simpa using h2
        generalize lvl op = v at h0 hr hlk hfl
        clear h1 h2
        go_wp2
        go_ret
        exact ⟨ret_int HL.out.symm, rfl⟩

end Go.Proofs.YtccdmgncjlpebaaDoor

/-
  Expressions: the program's exprSize: the walk.
-/
namespace Go.Proofs.YtccdmgncjlpebaaDoor
open Go.RowKit

def SizeRes (nameB : ByteArray → Bool) (m : Nat) (x : ExprD) (e : Ending) : Prop :=
  ∃ p d : Int, e = .returned (.tuple #[.int .i64 p, .int .i64 d, .bool (sizeD nameB m x).isSome]) ∧ ∀ q, sizeD nameB m x = some q → p = q.1 ∧ d = q.2
theorem sizeRes_none {nameB : ByteArray → Bool} {m : Nat} {x : ExprD} (h : sizeD nameB m x = none) : SizeRes nameB m x (.returned (.tuple #[.int .i64 0, .int .i64 0, .bool false])) :=
  ⟨0, 0, by rw [h]; rfl, fun q hq => by rw [h] at hq; cases hq⟩
theorem int_eq_of {a b : Int} (h : a = b) : Value.int .i64 a = .int .i64 b := by rw [h]
/-- What the switch leaves. -/
def PreB (nameB : ByteArray → Bool) (op n : Int) (name : ByteArray) (k l h : Nat) : Prop :=
  headB nameB op n name k = ((if levelI op < 6 then n == 0 && name.toList.isEmpty else true) && inE l k h)
end Go.Proofs.YtccdmgncjlpebaaDoor

/-
  Contracts of the library's functions over this program: the numbers under which its bodies stand here, and that they are the same bodies. (no filter)
-/
namespace Go.Proofs.YtccdmgncjlpebaaDoor
open Go.RowKit Go.Shelf

def laysIdxF_ren : Go.Shelf.Ren := ⟨fun | 315 => 44 | n => n, fun | 9 => 9 | 40 => 62 | 4 => 4 | 3 => 3 | 0 => 0 | 21 => 21 | n => n, fun | n => n⟩
theorem laysIdxF : Go.Proofs.Lays.n315 Tryd.prog laysIdxF_ren := {
  mixed := by kernel_rfl,
  f315 := Tryd.func44.trans (congrArg some (by kernel_rfl)),
  t0 := Tryd.underlying0,
  a0 := Tryd.isAgg0,
  z0 := Tryd.sizeOf0,
  v0 := Tryd.zeroValue0,
  t3 := Tryd.underlying3,
  a3 := Tryd.isAgg3,
  z3 := Tryd.sizeOf3,
  v3 := Tryd.zeroValue3,
  t4 := Tryd.underlying4,
  a4 := Tryd.isAgg4,
  z4 := Tryd.sizeOf4,
  v4 := Tryd.zeroValue4,
  t9 := Tryd.underlying9,
  a9 := Tryd.isAgg9,
  z9 := Tryd.sizeOf9,
  v9 := Tryd.zeroValue9,
  t21 := Tryd.underlying21,
  a21 := Tryd.isAgg21,
  z21 := Tryd.sizeOf21,
  v21 := Tryd.zeroValue21,
  t40 := Tryd.underlying62,
  a40 := Tryd.isAgg62,
  z40 := Tryd.sizeOf62,
  v40 := Tryd.zeroValue62 }

end Go.Proofs.YtccdmgncjlpebaaDoor
