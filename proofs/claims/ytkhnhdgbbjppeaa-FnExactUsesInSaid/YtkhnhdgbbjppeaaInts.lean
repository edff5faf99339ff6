
/-
  Walks of the helpers of the laws over slices of ints: toIntS makes a copy, eqIntS compares.
-/
import Derived.Test.YtkhnhdgbbjppeaaBase
namespace Go.Proofs.Ytkhnhdgbbjppeaa
open Go.RowKit

theorem set_next {xs : List Int} {k n : Nat} {x : Int} (h : xs[k]? = some x) (hn : xs.length = n) :
    ((xs.take k).map (Value.int .i64) ++ List.replicate (n - k) (Value.int .i64 0)).set k (.int .i64 x) =
      (xs.take (k + 1)).map (Value.int .i64) ++ List.replicate (n - (k + 1)) (Value.int .i64 0) := by
  have hk : k < xs.length := (List.getElem?_eq_some_iff.1 h).1
  have hl : ((xs.take k).map (Value.int .i64)).length = k := by simp; omega
  rw [List.set_append_right _ _ (by omega), hl, Nat.sub_self, take_succ_of h, List.map_append, List.append_assoc]
  obtain ⟨m, hm⟩ : ∃ m, n - k = m + 1 := ⟨n - k - 1, by omega⟩
  rw [hm, show n - (k + 1) = m by omega]
  simp [List.replicate_succ]

set_option maxHeartbeats 400000 in
theorem toIntS_any (a : Option Addr) (len cap : Nat) (xs : List Int) (w : World) (h : IntsRd w a len xs) (hs : len ≤ 1099511627776) :
    Calls Try.prog 149 #[.slice a len cap] w fun e w' => RetInts w xs len e w' := by
  obtain ⟨i0, hi, hz0, hz1, hz2⟩ := info_parts info_int
  go_enter Try.func149, Try.ntmps149
  go_wp2_with (at_make; refine wpList_make_full _ rfl _ _ 40 rfl w.heap.size 3 i0 (.int .i64 0) 1 und_ints hi hz0 hz1 _ _ _ _ len rfl rfl rfl rfl ?b2 ?b3 ?b4 ?_)
  case b2 => rw [hz2]; omega
  case b3 => unfold maxLen; omega
  case b4 => exact Nat.le_refl _
  intro w1 hown hg
  have hb1 : Below w.heap.size w w1 := (Below.refl _ _).grown hg (Nat.le_refl _) (by simp)
  rw [toList_madeCells_one] at hown
  have h1 := h.later hb1
  have hl := h.length
  go_wp2
  go_loopw [4] (fun i wr => ∃ k : Nat, k ≤ len ∧ i = .int .i64 k ∧ Below w.heap.size w wr ∧
      wr.ownsRow w.heap.size 3 1 (.slice (some ⟨w.heap.size, 0, none⟩) len len) len ((xs.take k).map (Value.int .i64) ++ List.replicate (len - k) (Value.int .i64 0)))
    (fun i _ => len - (intOf i).toNat)
  case atStart => exact ⟨0, Nat.zero_le _, rfl, hb1, by simpa using hown⟩
  case round =>
    obtain ⟨k, hk, rfl, hbr, hownr⟩ := hrel
    clear hown hg h1 hb1
    by_cases hlt : k < len
    · obtain ⟨b, off, x, rfl, hx, hc⟩ := (h.later hbr).place hlt
      have hfz := hownr.frozenAt k
      have hcl : ∃ u, wr.cell? ⟨w.heap.size, k, none⟩ = some u := by
        rw [hownr.cellAt k (by omega)]
        exact ⟨_, List.getElem?_eq_getElem (by simp; omega)⟩
      obtain ⟨u, hcu⟩ := hcl
      have HX := Lib.hid hx
      have HO := Lib.hid hownr
      have HL := Lib.hid hl
      clear hx hownr hl
      go_wp2
      go_roundw
      case rel =>
        refine ⟨k + 1, by omega, by go_num, hbr.setCell (Nat.le_refl _) _, ?_⟩
        rw [← set_next HX.out HL.out]
        exact (HO.out.stored k _).1
      case measure => simp [intOf]; omega
    · obtain rfl : k = len := by omega
      have HO := Lib.hid hownr
      have HL := Lib.hid hl
      clear hownr hl
      go_wp2
      go_ret
      refine ⟨_, _, rfl, ?_, hbr⟩
      have := HO.out
      rw [List.take_of_length_le (by have := HL.out; omega), Nat.sub_self] at this
      simpa using this

set_option maxHeartbeats 400000 in
theorem eqIntS_quiet (a a' : Option Addr) (len cap cap' : Nat) (xs : List Int) (w : World) (h : IntsRd w a len xs) (h' : IntsRd w a' len xs) (hs : len ≤ 1099511627776) :
    Calls Try.prog 30 #[.slice a len cap, .slice a' len cap'] w fun e w' => e = .returned (.bool true) ∧ ∃ m, w' = w.drewN m := by
  have hne : ((len : Int) != (len : Int)) = false := by simp
  go_enter Try.func30, Try.ntmps30
  go_wp2
  go_loopw [5] (fun i wr => ∃ k m : Nat, k ≤ len ∧ i = .int .i64 k ∧ wr = w.drewN m) (fun i _ => len - (intOf i).toNat)
  case atStart => exact ⟨0, 0, Nat.zero_le _, rfl, rfl⟩
  case round =>
    obtain ⟨k, m, hk, rfl, rfl⟩ := hrel
    by_cases hlt : k < len
    · obtain ⟨b, off, x, rfl, hx, hc⟩ := h.place hlt
      obtain ⟨b', off', x', rfl, hx', hc'⟩ := h'.place hlt
      obtain rfl : x' = x := by rw [hx] at hx'; exact (Option.some.inj hx').symm
      clear hx hx' hne
      have hne : (x' != x') = false := by simp
      go_wp2
      go_quiet (fail)
      go_wp2
      go_roundw
      case rel => exact ⟨k + 1, m + nq, by omega, by go_num, rfl⟩
      case measure => simp [intOf]; omega
    · go_wp2
      go_ret
      exact ⟨rfl, _, rfl⟩

theorem eqIntS_true (a a' : Option Addr) (len cap cap' : Nat) (xs : List Int) (w : World) (h : IntsRd w a len xs) (h' : IntsRd w a' len xs) (hs : len ≤ 1099511627776) :
    Calls Try.prog 30 #[.slice a len cap, .slice a' len cap'] w fun e w' => e = .returned (.bool true) ∧ Below w.heap.size w w' :=
  (eqIntS_quiet a a' len cap cap' xs w h h' hs).mono fun _ _ ⟨he, m, hm⟩ => ⟨he, by rw [hm]; exact below_drewN (Below.refl _ _) m⟩

end Go.Proofs.Ytkhnhdgbbjppeaa
