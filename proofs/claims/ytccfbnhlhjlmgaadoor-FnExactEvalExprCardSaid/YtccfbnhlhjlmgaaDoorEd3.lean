
/-
  The laws' size of a list of texts, copy, comparison.
-/
import Derived.Test.YtccfbnhlhjlmgaaDoorNm
import Derived.Test.YtccfbnhlhjlmgaaDoorBase
import Derived.Deep.QuietTactic
import Derived.BigQuiet
namespace Go.Proofs.YtccfbnhlhjlmgaaDoor
open Go.RowKit

set_option maxHeartbeats 800000 in
theorem szStringS_any (a : Option Addr) (len cap : Nat) (xs : List ByteArray) (left : Int) (w : World) (hin : StrsE w a len xs) (hsz : ∀ s ∈ xs, s.size ≤ maxLen) (h0 : 0 ≤ left) (h1 : left ≤ 1048576) (hl : len ≤ 9223372036854775807) :
    Calls Tryd.prog 41 #[.slice a len cap, .int .i64 left] w fun e w' => SizedD left (szS ByteArray.size xs) e ∧ w' = w := by
  have hlen := hin.length
  have hS : szS ByteArray.size xs = len + sumOf ByteArray.size xs := by rw [szS, hlen]
  rw [hS]
  have HLEN := Lib.hid hlen
  have HSZ := Lib.hid hsz
  clear hS hlen hsz
  by_cases h : left < len
  · go_enter Tryd.func41, Tryd.ntmps41
    go_wp2
    go_ret
    exact ⟨.inl ⟨by omega, rfl⟩, rfl⟩
  · go_enter Tryd.func41, Tryd.ntmps41
    go_wp2
    go_loopw [1, 5] (fun l i wr => ∃ k : Nat, k ≤ len ∧ i = .int .i64 k ∧ ∃ Lf : Int, l = .int .i64 Lf ∧ 0 ≤ Lf ∧ Lf + len + sumOf ByteArray.size (xs.take k) = left ∧ wr = w) (fun _ i _ => len - (intOf i).toNat)
    case atStart => exact ⟨0, Nat.zero_le _, rfl, _, rfl, by omega, by simp [sumOf], rfl⟩
    case round =>
      obtain ⟨k, hk, rfl, Lf, rfl, hL0, hL1, rfl⟩ := hrel
      by_cases hlt : k < len
      · obtain ⟨b, off, s, rfl, hx, hc⟩ := hin.place hlt
        have hts : sumOf ByteArray.size (xs.take (k + 1)) = sumOf ByteArray.size (xs.take k) + s.size := by rw [take_succ_of hx, sumOf_snoc]
        have htl := sumOf_take ByteArray.size xs (k + 1)
        have hq : s.size ≤ 9223372036854775807 := by have := HSZ.out s (List.mem_of_getElem? hx); unfold maxLen at this; omega
        have HT := Lib.hid hts
        clear hx hts
        by_cases hlt2 : Lf < (s.size : Int)
        · have hres : left < ((len + sumOf ByteArray.size xs : Nat) : Int) := by have := HT.out; omega
          go_wp2
          go_ret
          exact ⟨.inl ⟨hres, rfl⟩, rfl⟩
        · go_wp2
          go_roundw
          case rel => exact ⟨k + 1, by omega, by go_num, _, rfl, by omega, by have := HT.out; omega, trivial⟩
          case measure => simp [intOf]; omega
      · obtain rfl : k = len := by omega
        have hall : sumOf ByteArray.size (xs.take k) = sumOf ByteArray.size xs := by rw [List.take_of_length_le (by have := HLEN.out; omega)]
        have HA := Lib.hid hall
        clear hall
        go_wp2
        go_ret
        exact ⟨.inr ⟨by have := HA.out; omega, ret_int (by have := HA.out; omega)⟩, rfl⟩

theorem set_nextS {xs : List ByteArray} {k n : Nat} {x : ByteArray} (h : xs[k]? = some x) (hn : xs.length = n) :
    ((xs.take k).map Value.string ++ List.replicate (n - k) (Value.string ⟨#[]⟩)).set k (.string x) =
      (xs.take (k + 1)).map Value.string ++ List.replicate (n - (k + 1)) (Value.string ⟨#[]⟩) := by
  have hk : k < xs.length := (List.getElem?_eq_some_iff.1 h).1
  have hl : ((xs.take k).map Value.string).length = k := by simp; omega
  rw [List.set_append_right _ _ (by omega), hl, Nat.sub_self, take_succ_of h, List.map_append, List.append_assoc]
  obtain ⟨m, hm⟩ : ∃ m, n - k = m + 1 := ⟨n - k - 1, by omega⟩
  rw [hm, show n - (k + 1) = m by omega]
  simp [List.replicate_succ]
theorem info_strE : (Tryd.prog.info? 9).map (fun i => (i.zero, i.size, i.bytes)) = some (some (.string ⟨#[]⟩), 1, 16) := by kernel_rfl
theorem und_strsE : Tryd.prog.underlying 38 = some (.slice 9) := by kernel_rfl
theorem StrsE.of_own {w : World} {lo : Nat} {a : Option Addr} {n c : Nat} {xs : List ByteArray} (h : w.ownsRow lo 9 1 (.slice a n c) n (xs.map Value.string)) (hl : xs.length = n) : StrsE w a n xs := ⟨hl, rowAt_of_own h⟩
set_option maxHeartbeats 800000 in
theorem toStringS_any (a : Option Addr) (len cap : Nat) (xs : List ByteArray) (w : World) (h : StrsE w a len xs) (hs : len ≤ 1048576) :
    Calls Tryd.prog 43 #[.slice a len cap] w fun e w' => ∃ a' c', e = .returned (.slice a' len c') ∧ StrsE w' a' len xs ∧ Below w.heap.size w w' := by
  obtain ⟨i0, hi, hz0, hz1, hz2⟩ := info_parts info_strE
  go_enter Tryd.func43, Tryd.ntmps43
  go_wp2_with (at_make; refine wpList_make_full _ rfl _ _ 38 rfl w.heap.size 9 i0 (.string ⟨#[]⟩) 1 und_strsE hi hz0 hz1 _ _ _ _ len rfl rfl rfl rfl (by rw [hz2]; omega) (by unfold maxLen; omega) (Nat.le_refl _) ?_; intro w1 hown hg)
  have hb1 : Below w.heap.size w w1 := (Below.refl _ _).grown hg (Nat.le_refl _) (by simp)
  rw [show (Value.string ⟨#[]⟩).cells = #[Value.string ⟨#[]⟩] from rfl, Nat.mul_one, toList_madeCells_one] at hown
  have h1 := h.later hb1
  have hl := h.length
  go_wp2
  go_loopw [4] (fun i wr => ∃ k : Nat, k ≤ len ∧ i = .int .i64 k ∧ Below w.heap.size w wr ∧
      wr.ownsRow w.heap.size 9 1 (.slice (some ⟨w.heap.size, 0, none⟩) len len) len ((xs.take k).map Value.string ++ List.replicate (len - k) (Value.string ⟨#[]⟩)))
    (fun i _ => len - (intOf i).toNat)
  case atStart => exact ⟨0, Nat.zero_le _, rfl, hb1, by simpa using hown⟩
  case round =>
    obtain ⟨k, hk, rfl, hbr, hownr⟩ := hrel
    clear hown hg h1 hb1
    by_cases hlt : k < len
    · obtain ⟨b, off, x, rfl, hx, hc⟩ := (h.later hbr).place hlt
      have hfz := hownr.frozenAt k
      have hcl : ∃ u, wr.cell? ⟨w.heap.size, k, none⟩ = some u := by
        rw [hownr.cellAt k (by omega)]
        exact ⟨_, List.getElem?_eq_getElem (by simp; omega)⟩
      obtain ⟨u, hcu⟩ := hcl
      have HX := Lib.hid hx
      have HO := Lib.hid hownr
      have HL := Lib.hid hl
      clear hx hownr hl
      go_wp2
      go_roundw
      case rel =>
        refine ⟨k + 1, by omega, by go_num, hbr.setCell (Nat.le_refl _) _, ?_⟩
        rw [← set_nextS HX.out HL.out]
        exact (HO.out.stored k _).1
      case measure => simp [intOf]; omega
    · obtain rfl : k = len := by omega
      have HO := Lib.hid hownr
      have HL := Lib.hid hl
      clear hownr hl
      go_wp2
      go_ret
      refine ⟨_, _, rfl, ?_, hbr⟩
      have := HO.out
      rw [List.take_of_length_le (by have := HL.out; omega), Nat.sub_self] at this
      exact StrsE.of_own (by simpa using this) HL.out

set_option maxHeartbeats 800000 in
theorem eqStringS_any (a a' : Option Addr) (len cap cap' : Nat) (xs : List ByteArray) (w : World) (h : StrsE w a len xs) (h' : StrsE w a' len xs) (hs : len ≤ 1048576) :
    Calls Tryd.prog 46 #[.slice a len cap, .slice a' len cap'] w fun e w' => e = .returned (.bool true) ∧ Below w.heap.size w w' := by
  have hne : ((len : Int) != (len : Int)) = false := by simp
  go_enter Tryd.func46, Tryd.ntmps46
  go_wp2
  go_loopw [5] (fun i wr => ∃ k m : Nat, k ≤ len ∧ i = .int .i64 k ∧ wr = w.drewN m) (fun i _ => len - (intOf i).toNat)
  case atStart => exact ⟨0, 0, Nat.zero_le _, rfl, rfl⟩
  case round =>
    obtain ⟨k, m, hk, rfl, rfl⟩ := hrel
    by_cases hlt : k < len
    · obtain ⟨b, off, x, rfl, hx, hc⟩ := h.place hlt
      obtain ⟨b', off', x', rfl, hx', hc'⟩ := h'.place hlt
      obtain rfl : x' = x := by rw [hx] at hx'; exact (Option.some.inj hx').symm
      clear hx hx' hne
      have hne : (x'.toList == x'.toList) = true := by simp
      go_wp2
      go_quiet (fail)
      go_wp2
      go_roundw
      case rel => exact ⟨k + 1, m + nq, by omega, by go_num, rfl⟩
      case measure => simp [intOf]; omega
    · go_wp2
      go_ret
      exact ⟨rfl, below_drewN (Below.refl _ _) _⟩

end Go.Proofs.YtccfbnhlhjlmgaaDoor
