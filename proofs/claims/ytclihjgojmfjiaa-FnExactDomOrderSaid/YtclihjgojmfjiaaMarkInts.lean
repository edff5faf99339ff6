/-
  The laws' marks on a slice of ints.
-/
import Derived.Test.YtclihjgojmfjiaaInts
namespace Go.Proofs.Ytclihjgojmfjiaa
open Go.RowKit

/-- The numbers k, k+1, .. (n of them). -/
def run (k : Int) (n : Nat) : List Int := (List.range n).map (fun i : Nat => k + i)
theorem run_length (k : Int) (n : Nat) : (run k n).length = n := by simp [run]
theorem run_succ (k : Int) (n : Nat) : run k (n + 1) = run k n ++ [k + n] := by simp [run, List.range_succ]
theorem run_get (k : Int) (n i : Nat) (h : i < n) : (run k n)[i]? = some (k + i) := by simp [run, h]

theorem mark_next {vs : List Value} {k : Int} {j n : Nat} (hj : j < n) (hn : vs.length = n) :
    ((run k j).map (Value.int .i64) ++ vs.drop j).set j (.int .i64 (k + j)) = (run k (j + 1)).map (Value.int .i64) ++ vs.drop (j + 1) := by
  have hl : ((run k j).map (Value.int .i64)).length = j := by simp [run_length]
  rw [List.set_append_right _ _ (by omega), hl, Nat.sub_self, run_succ, List.map_append, List.append_assoc]
  obtain ⟨u, hu⟩ : ∃ u, vs.drop j = u :: vs.drop (j + 1) := ⟨_, List.drop_eq_getElem_cons (show j < vs.length by omega)⟩
  rw [hu]
  rfl

set_option maxHeartbeats 400000 in
/-- markIntS on a slice that is owned: it holds running numbers, nothing else has changed. -/
theorem markIntS_any (lo : Nat) (a : Option Addr) (len cap : Nat) (vs : List Value) (k : Int) (w : World) (hown : w.ownsRow lo 3 1 (.slice a len cap) len vs) (hs : len ≤ 1099511627776) (hk0 : 0 ≤ k) (hk : k ≤ 1099511627776) :
    Calls Try.prog 28 #[.slice a len cap, .int .i64 k] w fun e w' => e = .returned (.int .i64 (k + len)) ∧ w'.ownsRow lo 3 1 (.slice a len cap) len ((run k len).map (Value.int .i64)) ∧ w.grownBy w' (Value.slice a len cap).ownBlock := by
  rcases hown.2 with ⟨hv, hl0⟩ | ⟨g, cap', cur, hv, _⟩
  · simp only [Value.slice.injEq] at hv
    obtain ⟨rfl, rfl, rfl⟩ := hv
    go_enter Try.func28, Try.ntmps28
    go_wp2
    refine wp_loop_rounds 1 ?_
    rw [rounds_succ]
    go_wp2
    go_ret
    exact ⟨ret_int (by simp), World.ownsRow_nil w lo 3 1, World.grownBy.refl _ _⟩
  · simp only [Value.slice.injEq] at hv
    obtain ⟨rfl, _, rfl⟩ := hv
    have hvl : vs.length = len := by simpa using hown.1
    go_enter Try.func28, Try.ntmps28
    go_wp2
    go_loopw [1, 5] (fun q i wr => ∃ j : Nat, j ≤ len ∧ i = .int .i64 j ∧ q = .int .i64 (k + j) ∧ wr.ownsRow lo 3 1 (.slice (some ⟨g, 0, none⟩) len cap) len ((run k j).map (Value.int .i64) ++ vs.drop j) ∧ w.grownBy wr (some g)) (fun _ i _ => len - (intOf i).toNat)
    case atStart => exact ⟨0, Nat.zero_le _, rfl, by simp, by simpa [run] using hown, World.grownBy.refl _ _⟩
    case round =>
      obtain ⟨j, hj, rfl, rfl, hownr, hg⟩ := hrel
      by_cases hlt : j < len
      · have hfz := hownr.frozenAt j
        have hcl : ∃ u, wr.cell? ⟨g, j, none⟩ = some u := by
          rw [hownr.cellAt j (by omega)]
          exact ⟨_, List.getElem?_eq_getElem (by rw [List.length_append, List.length_map, run_length, List.length_drop]; omega)⟩
        obtain ⟨u, hcu⟩ := hcl
        have HO := Lib.hid hownr
        have HV := Lib.hid hvl
        clear hownr hvl hown
        go_wp2
        go_roundw
        case rel =>
          refine ⟨j + 1, by omega, by go_num, by congr 1; omega, ?_, hg.trans (HO.out.stored j _).2⟩
          rw [← mark_next hlt HV.out]
          have := (HO.out.stored j (.int .i64 (k + j))).1
          simpa using this
        case measure => simp [intOf]; omega
      · obtain rfl : j = len := by omega
        have HO := Lib.hid hownr
        have HV := Lib.hid hvl
        clear hownr hvl hown
        go_wp2
        go_ret
        refine ⟨rfl, ?_, hg⟩
        have := HO.out
        rw [List.drop_of_length_le (by have := HV.out; omega), List.append_nil] at this
        exact this

set_option maxHeartbeats 400000 in
theorem heldIntS_any (a : Option Addr) (len cap : Nat) (k : Int) (w : World) (hin : IntsRd w a len (run k len)) (hs : len ≤ 1099511627776) (hk0 : 0 ≤ k) (hk : k ≤ 1099511627776) :
    Calls Try.prog 29 #[.slice a len cap, .int .i64 k] w fun e w' => e = .returned (.int .i64 (k + len)) ∧ w = w' := by
  go_enter Try.func29, Try.ntmps29
  go_wp2
  go_loop [1, 5] (fun q i => ∃ j : Nat, j ≤ len ∧ i = .int .i64 j ∧ q = .int .i64 (k + j)) (fun _ i => len - (intOf i).toNat)
  case atStart => exact ⟨0, Nat.zero_le _, rfl, by simp⟩
  case round =>
    obtain ⟨j, hj, rfl, rfl⟩ := hrel
    by_cases hlt : j < len
    · obtain ⟨b, off, x, rfl, hx, hc⟩ := hin.place hlt
      rw [run_get _ _ _ hlt] at hx
      obtain rfl := Option.some.inj hx
      have hne : (k + (j : Int) != k + (j : Int)) = false := by simp
      clear hx
      go_wp2
      go_round
      case rel => exact ⟨j + 1, by omega, by go_num, by congr 1; omega⟩
      case measure => simp [intOf]; omega
    · obtain rfl : j = len := by omega
      go_wp2
      go_ret
      exact ⟨rfl, rfl⟩

/-! ### slices of slices -/

end Go.Proofs.Ytclihjgojmfjiaa
