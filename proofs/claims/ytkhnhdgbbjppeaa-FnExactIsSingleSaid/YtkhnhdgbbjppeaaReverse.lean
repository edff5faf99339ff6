
/-
  The library's slices.Reverse over ints that a call has made.
-/
import Derived.Test.YtkhnhdgbbjppeaaOrderIn
namespace Go.Proofs.Ytkhnhdgbbjppeaa
open Go.RowKit

set_option maxRecDepth 100000 in
set_option maxHeartbeats 2000000 in
theorem reverse_any (lo : Nat) (a : Option Addr) (cap : Nat) (xs : List Int) (w : World) (hown : w.ownsRow lo 3 1 (.slice a xs.length cap) xs.length (xs.map (Value.int .i64))) (hs : xs.length ≤ 1048576) :
    Calls Try.prog 136 #[.slice a xs.length cap] w fun e w' => e = .returned (.tuple #[]) ∧ w'.ownsRow lo 3 1 (.slice a xs.length cap) xs.length (xs.reverse.map (Value.int .i64)) ∧ Turned (fun k => (Value.slice a xs.length cap).ownBlock = some k) w w' := by
  have H0 := Lib.hid (show w.ownsRow lo 3 1 (.slice a xs.length cap) xs.length ((revTo xs 0).map (Value.int .i64)) by rw [revTo_zero]; exact hown)
  clear hown
  go_enter Try.func136, Try.ntmps136
  go_wp2
  go_loopg [2, 3] xs.length (fun F i j wr => ∃ (k : Nat) (jz : Int), i = .int .i64 k ∧ j = .int .i64 jz ∧ jz = (xs.length : Int) - 1 - k ∧ k + F = xs.length ∧ Hid (wr.ownsRow lo 3 1 (.slice a xs.length cap) xs.length ((revTo xs k).map (Value.int .i64)) ∧ Turned (fun k => (Value.slice a xs.length cap).ownBlock = some k) w wr))
  case atStart => exact ⟨0, _, rfl, rfl, by omega, by omega, Lib.hid ⟨H0.out, Turned.refl _ _⟩⟩
  case round =>
    obtain ⟨k, jz, rfl, rfl, hjz, hk, HK⟩ := hrel
    clear H0
    by_cases hlt : (k : Int) < jz
    · obtain ⟨jn, rfl⟩ : ∃ n : Nat, jz = (n : Int) := ⟨jz.toNat, by omega⟩
      have hjn : jn = xs.length - 1 - k := by omega
      have hkn : k < xs.length := by omega
      have hjx : jn < xs.length := by omega
      obtain ⟨g, rfl⟩ : ∃ g, a = some ⟨g, 0, none⟩ := by
        have h := HK.out.1
        obtain ⟨m, hm⟩ : ∃ m, xs.length = m + 1 := ⟨xs.length - 1, by omega⟩
        rw [hm] at h
        exact own_some h
      have hci := HK.out.1.cellAt k (by omega)
      have hcj := HK.out.1.cellAt jn (by omega)
      rw [List.getElem?_map, revTo_get hkn, if_neg (by omega), Option.map_some] at hci
      rw [List.getElem?_map, revTo_get hjx, if_neg (by omega), Option.map_some] at hcj
      have hfi := HK.out.1.frozenAt k
      have hfj := HK.out.1.frozenAt jn
      have hne : k ≠ jn := by omega
      have HJ := Lib.hid (And.intro hjn (And.intro hjz hk))
      clear hjn hjz hk
      go_wp2_with fail
      go_region
      go_wp2
      go_roundg (gk - 1)
      rotate_left
      · have := HJ.out; omega
      · refine ⟨k + 1, (jn : Int) - 1, ?_, ?_, ?_, ?_, ?_⟩
        · rfl
        · rfl
        · have := HJ.out; omega
        · have := HJ.out; omega
        · have hr : (revTo xs (k + 1)).map (Value.int .i64) = (((revTo xs k).map (Value.int .i64)).set k (.int .i64 xs[jn])).set jn (.int .i64 xs[k]) := by
            rw [← List.map_set, ← List.map_set, ← revTo_succ (by have := HJ.out; omega), ← HJ.out.1]
            simp only [List.getD_eq_getElem?_getD, List.getElem?_eq_getElem hkn, List.getElem?_eq_getElem hjx, Option.getD_some]
          have h1 := HK.out.1.stored k (.int .i64 xs[jn])
          have h2 := h1.1.stored jn (.int .i64 xs[k])
          refine Lib.hid ⟨?_, ?_⟩
          · rw [hr]; exact h2.1.drew
          · exact (HK.out.2.trans (turned_of_grown (h1.2.trans h2.2) (fun k hk => hk))).trans ⟨rfl, rfl, rfl, Nat.le_refl _, fun _ _ _ => rfl⟩
    · have HE := Lib.hid (show revTo xs k = xs.reverse from revTo_end (by omega))
      go_wp2
      go_end0
      have h := HK.out
      rw [HE.out, List.map_reverse] at h
      exact ⟨rfl, h⟩

end Go.Proofs.Ytkhnhdgbbjppeaa
