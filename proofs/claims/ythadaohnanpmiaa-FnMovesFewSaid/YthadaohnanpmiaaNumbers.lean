/-
  The reference draws a short list of small numbers (l21Numbers); wwHas looks a number up in a list; the walk of the law FnColoursUsed.
-/
import Derived.Test.YthadaohnanpmiaaRd
import Derived.Test.YthadaohnanpmiaaKinds
import Derived.Test.YthadaohnanpmiaaLaw
namespace Go.Proofs.Ythadaohnanpmiaa
open Go.RowKit

/-- A short list of ints was drawn. -/
def DrewInts (w : World) (e : Ending) (w' : World) : Prop :=
  ∃ a cap xs, e = .returned (.slice a xs.length cap) ∧ IntsAt w' a xs.length cap xs ∧ xs.length ≤ 8 ∧ (∀ x ∈ xs, (Lit.int .i64 x).wf = true) ∧ Below w.heap.size w w'

set_option maxHeartbeats 400000 in
theorem numbers_any (w : World) (a : Option Addr) (len cap : Nat) (bs : List Int) (hin : BytesRd w a len bs) (hcap : len ≤ cap) :
    Calls Try.prog 49 #[.slice a len cap] w fun e w' => DrewInts w e w' := by
  go_enter Try.func49, Try.ntmps49
  go_wp2_with fail
  refine (open_any w a len cap bs hin hcap).mono ?_
  rintro e w1 ⟨a1, len1, cap1, bs1, rfl, hrd1, hlen1, hsz1⟩
  have hown1 := own_empty w1 (w.heap.size + 1) 3 1 (by omega)
  have hrd1' := hrd1.alloc (.cells #[] 3)
  go_wp2_with fail
  refine (pick_any w _ w.heap.size a1 len1 cap1 bs1 0 8 hrd1' (by omega) hlen1 (by omega)).mono ?_
  rintro e w2 ⟨v, hv0, hv1, rfl, hrd2, hg2⟩
  have hown2 := own_picked hown1 hg2 (by omega)
  have hg2s := hg2.size
  clear hown1 hrd1' hrd1 hsz1 hg2 hin hcap
  go_wp2
  go_loopw [4, 5] (fun o i wr => ∃ (k p : Nat) (ao : Option Addr) (n c : Nat) (xs : List Int), k ≤ 7 ∧ p ≤ 100 - k ∧ n ≤ 7 - k ∧ i = .int .i64 k ∧ o = .slice ao n c ∧ wr.ownsRow (w.heap.size + 1) 3 1 (.slice ao n c) n (xs.map (Value.int .i64)) ∧
      (∀ x ∈ xs, (Lit.int .i64 x).wf = true) ∧ Rd w wr w.heap.size a1 len1 cap1 bs1 p) (fun _ i _ => (intOf i).toNat)
  case atStart =>
    obtain ⟨k, rfl⟩ := Int.eq_ofNat_of_zero_le hv0
    exact ⟨k, 0 + 1, _, _, _, [], by omega, by omega, by omega, rfl, rfl, hown2, by simp, hrd2⟩
  case round =>
    obtain ⟨k, p, ao, n, c, xs, hk, hp, hn, rfl, rfl, hown, hwf, hrd⟩ := hrel
    clear hown2 hrd2 hg2s
    by_cases hlt : 0 < k
    · have HW := Lib.hid hwf
      clear hwf
      go_wp2_with fail
      refine (pick_any w _ w.heap.size a1 len1 cap1 bs1 p 9 hrd (by omega) hlen1 (by omega)).mono ?_
      rintro e w3 ⟨v3, hv30, hv31, rfl, hrd3, hg3⟩
      have hown3 := own_picked hown hg3 (by omega)
      have hb3 : w.heap.size + 1 ≤ w3.heap.size := by have := hrd3.lt; omega
      clear hown hrd hg3
      go_wp2_with (at_builtin; refine app_ints rfl (.tmp 15) (.tmp 19) rfl (w.heap.size + 1) _ n _ rfl (hown3.alloc _) _ 1 _ [v3 - 4] rfl rfl (rowAt_one _ _ _) (by rintro ⟨⟩) (by omega) (by simp; omega) ?_; intro a4 c4 w4 hown4 hgrow4 hlies4)
      have hrd4 := (hrd3.alloc (.cells #[.int .i64 (v3 - 4)] 3)).kept hgrow4 (fun j hj => by have := (hown3.lt j hj).1; omega)
      rw [← List.map_append] at hown4
      clear hown3 hgrow4 hlies4 hrd3
      go_wp2
      go_roundw
      case rel =>
        refine ⟨k - 1, p + 1, _, _, _, xs ++ [v3 - 4], by omega, by omega, by omega, ?_, rfl, hown4, ?_, hrd4⟩
        · congr 1; omega
        · intro x hx
          rcases List.mem_append.1 hx with hx | hx
          · exact HW.out x hx
          · simp at hx; subst hx; exact WalkArith.wf_i64 (by omega)
      case measure => simp [intOf]; omega
    · obtain rfl : k = 0 := by omega
      have HW := Lib.hid hwf
      have hb := hrd.below
      clear hwf
      go_wp2
      go_ret
      have hi := ints_of_own hown
      have hl := hi.length
      subst hl
      exact ⟨_, _, xs, rfl, hi, by omega, HW.out, hb⟩

set_option maxHeartbeats 400000 in
theorem wwHas_any (a : Option Addr) (len cap : Nat) (xs : List Int) (x : Int) (w : World) (hin : IntsRd w a len xs) (hs : len ≤ 1099511627776) :
    Calls Try.prog 22 #[.slice a len cap, .int .i64 x] w fun e w' => e = .returned (.bool (decide (x ∈ xs))) ∧ w = w' := by
  have hl := hin.length
  by_cases hx : x ∈ xs
  · have hd : decide (x ∈ xs) = true := by simp [hx]
    rw [hd]
    have hx' := hx
    obtain ⟨j, hj⟩ := List.getElem?_of_mem hx
    have HJ := Lib.hid hj
    clear hd hj hx hx' hl
    go_enter Try.func22, Try.ntmps22
    go_wp2
    go_loop [9] (fun i => ∃ k : Nat, k ≤ j ∧ i = .int .i64 k) (fun i => len - (intOf i).toNat)
    case atStart => exact ⟨0, by omega, rfl⟩
    case round =>
      obtain ⟨k, hk, rfl⟩ := hrel
      have hjl : j < len := by have := (List.getElem?_eq_some_iff.1 HJ.out).1; have := hin.length; omega
      have hlt : k < len := by omega
      obtain ⟨b, off, y, rfl, hy, hc⟩ := hin.place hlt
      have HY := Lib.hid hy
      clear hy
      by_cases hyx : y = x
      · subst hyx
        have ht : (y == y) = true := by simp
        go_wp2
        go_ret
        exact ⟨rfl, rfl⟩
      · have ht : (y == x) = false := by simpa using hyx
        have hkj : k < j := by
          rcases Nat.lt_or_ge k j with h | h
          · exact h
          · obtain rfl : k = j := by omega
            have h1 := HY.out; rw [HJ.out] at h1; cases h1; exact absurd rfl hyx
        go_wp2
        go_round
        case rel => exact ⟨k + 1, by omega, by go_num⟩
        case measure => simp [intOf]; omega
  · have hd : decide (x ∈ xs) = false := by simp [hx]
    rw [hd]
    have HN := Lib.hid hx
    clear hd hl hx
    go_enter Try.func22, Try.ntmps22
    go_wp2
    go_loop [9] (fun i => ∃ k : Nat, k ≤ len ∧ i = .int .i64 k) (fun i => len - (intOf i).toNat)
    case atStart => exact ⟨0, by omega, rfl⟩
    case round =>
      obtain ⟨k, hk, rfl⟩ := hrel
      by_cases hlt : k < len
      · obtain ⟨b, off, y, rfl, hy, hc⟩ := hin.place hlt
        have hyx : y ≠ x := by rintro rfl; exact HN.out (List.mem_of_getElem? hy)
        have ht : (y == x) = false := by simpa using hyx
        clear hy
        go_wp2
        go_round
        case rel => exact ⟨k + 1, by omega, by go_num⟩
        case measure => simp [intOf]; omega
      · go_wp2
        go_ret
        exact ⟨rfl, rfl⟩

/-! ### FnColoursUsed -/
theorem length_split {α : Type} (p : α → Bool) : ∀ l : List α, (l.filter p).length + (l.filter (fun x => !p x)).length = l.length := by
  intro l
  induction l with
  | nil => rfl
  | cons x l ih => by_cases h : p x <;> simp [h] <;> omega
/-- Colours and slots of a list are its different numbers. -/
theorem both_kinds (xs : List Int) : (kinds xs false).length + (kinds xs true).length = (differ (fun _ => true) xs).length := by
  obtain ⟨n1, m1⟩ := differ_spec (fun _ => true) xs
  obtain ⟨r1, k1⟩ := kinds_spec false xs
  obtain ⟨r2, k2⟩ := kinds_spec true xs
  rw [← length_split (fun y : Int => decide (0 ≤ y)) (differ (fun _ => true) xs)]
  congr 1
  · refine same_length (rising_nodup r1) (n1.filter _) (fun y => ?_)
    rw [List.mem_filter, k1, m1]
    simp
  · refine same_length (rising_nodup r2) (n1.filter _) (fun y => ?_)
    rw [List.mem_filter, k2, m1]
    simp

theorem drawColours_any (w : World) (a : Option Addr) (len cap : Nat) (bs : List Int) (hin : BytesRd w a len bs) (hcap : len ≤ cap) :
    Calls Try.prog 20 #[.slice a len cap] w fun e w' => DrewInts w e w' := by
  go_enter Try.func20, Try.ntmps20
  go_wp2_with fail
  refine (numbers_any w a len cap bs hin hcap).mono ?_
  rintro e w1 ⟨a1, c1, xs, rfl, hx⟩
  go_wp2
  go_ret
  exact ⟨a1, c1, xs, rfl, hx⟩
theorem drawSlots_any (w : World) (a : Option Addr) (len cap : Nat) (bs : List Int) (hin : BytesRd w a len bs) (hcap : len ≤ cap) :
    Calls Try.prog 21 #[.slice a len cap] w fun e w' => DrewInts w e w' := by
  go_enter Try.func21, Try.ntmps21
  go_wp2_with fail
  refine (numbers_any w a len cap bs hin hcap).mono ?_
  rintro e w1 ⟨a1, c1, xs, rfl, hx⟩
  go_wp2
  go_ret
  exact ⟨a1, c1, xs, rfl, hx⟩

theorem bytes_of_row {w : World} {a : Option Addr} {len cap : Nat} {zs : List Int} (h : IsRow .u8 w a len cap zs) : BytesRd w a len (zs.take len) := by
  obtain ⟨h1, h2, h3⟩ := rowAt_of_row h
  refine ⟨h2, h1, fun x hx => ?_⟩
  have := h3 x hx
  simp [Lit.wf, IntKind.min, IntKind.max, IntKind.signed, IntKind.bits] at this
  exact ⟨by omega, by omega⟩
theorem cap_of_row {k : IntKind} {w : World} {a : Option Addr} {len cap : Nat} {zs : List Int} (h : IsRow k w a len cap zs) : len ≤ cap := by
  rcases h with ⟨_, rfl, rfl, _⟩ | ⟨_, _, h, _⟩
  · exact Nat.le_refl _
  · exact h
theorem BytesRd.later {w w' : World} {a : Option Addr} {len : Nat} {bs : List Int} (h : BytesRd w a len bs) (hb : Below w.heap.size w w') : BytesRd w' a len bs := ⟨h.length, h.row.later hb, h.byte⟩

set_option maxHeartbeats 1000000 in
theorem fnColoursUsed_walk (a : Option Addr) (len cap : Nat) (zs : List Int) (a' : Option Addr) (len' cap' : Nat) (zs' : List Int) (w : World) (hrow : IsRow .u8 w a len cap zs) (hrow' : IsRow .u8 w a' len' cap' zs') :
    Calls Try.prog 5 #[.slice a len cap, .slice a' len' cap'] w fun e w' => e = .returned (.bool true) ∧ Below w.heap.size w w' := by
  have hin := bytes_of_row hrow
  have hin' := bytes_of_row hrow'
  have hcap := cap_of_row hrow
  have hcap' := cap_of_row hrow'
  clear hrow hrow'
  by_cases hbig : 1048576 < len
  · have hd : decide ((1048576 : Int) < (len : Int)) = true := by simp; omega
    go_enter Try.func5, Try.ntmps5
    go_wp2
    go_ret
    exact ⟨rfl, Below.refl _ _⟩
  · have hd : decide ((1048576 : Int) < (len : Int)) = false := by simp; omega
    by_cases hbig' : 1048576 < len'
    · have hd' : decide ((1048576 : Int) < (len' : Int)) = true := by simp; omega
      go_enter Try.func5, Try.ntmps5
      go_wp2
      go_ret
      exact ⟨rfl, Below.refl _ _⟩
    · have hd' : decide ((1048576 : Int) < (len' : Int)) = false := by simp; omega
      go_enter Try.func5, Try.ntmps5
      go_wp2_with fail
      refine (drawColours_any w a len cap _ hin hcap).mono ?_
      rintro e w1 ⟨a1, c1, xs, rfl, hi1, hx1, hwf1, hb1⟩
      have hin1 := hin'.later hb1
      have HW1 := Lib.hid hwf1
      clear hin hin' hwf1 hd hd'
      go_wp2_with fail
      refine (drawSlots_any w1 a' len' cap' _ hin1 hcap').mono ?_
      rintro e w2 ⟨a2, c2, ys, rfl, hi2, hx2, hwf2, hb2⟩
      have hb02 : Below w.heap.size w w2 := hb1.trans (hb2.mono hb1.size)
      have hj1 := hi1.later hb2
      have HW2 := Lib.hid hwf2
      clear hin1 hi1 hb1 hb2 hwf2 hcap hcap'
      go_wp2_with fail
      refine (implColours_any _ _ _ _ _ hj1.toIntsRd HW1.out (by omega)).mono ?_
      rintro e w3 ⟨rfl, hb3⟩
      have hb03 : Below w.heap.size w w3 := hb02.trans (hb3.mono hb02.size)
      have hj3 := hj1.later hb3
      have hk3 := hi2.later hb3
      clear hj1 hi2 hb02 hb3
      go_wp2_with fail
      refine (implSlots_any _ _ _ _ _ hj3.toIntsRd HW1.out (by omega)).mono ?_
      rintro e w4 ⟨rfl, hb4⟩
      have hb04 : Below w.heap.size w w4 := hb03.trans (hb4.mono hb03.size)
      have hj4 := hj3.later hb4
      have hk4 := hk3.later hb4
      clear hj3 hk3 hb03 hb4
      go_wp2_with fail
      refine (specColours_any _ _ _ _ _ hj4.toIntsRd (by omega)).mono ?_
      rintro e w5 ⟨rfl, hb5⟩
      have hb05 : Below w.heap.size w w5 := hb04.trans (hb5.mono hb04.size)
      have hj5 := hj4.later hb5
      have hk5 := hk4.later hb5
      have hne1 : (((kinds xs false).length : Int) != ((kinds xs false).length : Int)) = false := by simp
      clear hj4 hk4 hb04 hb5
      go_wp2_with fail
      refine (implSlots_any _ _ _ _ _ hk5.toIntsRd HW2.out (by omega)).mono ?_
      rintro e w6 ⟨rfl, hb6⟩
      have hb06 : Below w.heap.size w w6 := hb05.trans (hb6.mono hb05.size)
      have hj6 := hj5.later hb6
      have hk6 := hk5.later hb6
      clear hj5 hk5 hb05 hb6
      go_wp2_with fail
      refine (specSlots_any _ _ _ _ _ hk6.toIntsRd (by omega)).mono ?_
      rintro e w7 ⟨rfl, hb7⟩
      have hb07 : Below w.heap.size w w7 := hb06.trans (hb7.mono hb06.size)
      have hj7 := hj6.later hb7
      have hne2 : (((kinds ys true).length : Int) != ((kinds ys true).length : Int)) = false := by simp
      clear hj6 hk6 hb06 hb7 hx2 HW2
      go_wp2
      have HB := Lib.hid (both_kinds xs)
      have hown7 := own_empty w7 w7.heap.size 3 1 (Nat.le_refl _)
      go_loopw [9, 42] (fun o i wr => ∃ (k : Nat) (ao : Option Addr) (n c : Nat), k ≤ xs.length ∧ i = .int .i64 k ∧ o = .slice ao n c ∧ n ≤ k ∧ wr.ownsRow w7.heap.size 3 1 (.slice ao n c) n ((differ (fun _ => true) (xs.take k)).map (Value.int .i64)) ∧
        Below w7.heap.size w7 wr) (fun _ i _ => xs.length - (intOf i).toNat)
      case atStart => exact ⟨0, _, _, _, Nat.zero_le _, rfl, rfl, Nat.le_refl _, hown7, (Below.refl _ _).alloc (Nat.le_refl _) _⟩
      case round =>
        obtain ⟨k, ao, n, c, hk, rfl, rfl, hn, hown, hbr⟩ := hrel
        clear hown7
        by_cases hlt : k < xs.length
        · obtain ⟨b, off, x, rfl, hx, hc⟩ := (hj7.later hbr).toIntsRd.place hlt
          have HT := Lib.hid (take_succ_of hx)
          clear hx
          have hi := (ints_of_own hown).toIntsRd
          by_cases hm : x ∈ differ (fun _ => true) (xs.take k)
          · have ht : decide (x ∈ differ (fun _ => true) (xs.take k)) = true := by simp [hm]
            have HM := Lib.hid hm
            clear hm
            go_wp2_with fail
            refine (wwHas_any _ _ _ _ _ _ hi (by omega)).mono ?_
            rintro e w8 ⟨rfl, rfl⟩
            go_wp2
            go_roundw
            case rel => exact ⟨k + 1, _, _, _, by omega, by go_num, rfl, by omega, by rw [HT.out, differ_snoc, if_pos rfl, addTo, if_pos HM.out]; exact hown, hbr⟩
            case measure => simp [intOf]; omega
          · have ht : decide (x ∈ differ (fun _ => true) (xs.take k)) = false := by simp [hm]
            have HM := Lib.hid hm
            clear hm
            go_wp2_with fail
            refine (wwHas_any _ _ _ _ _ _ hi (by omega)).mono ?_
            rintro e w8 ⟨rfl, rfl⟩
            have hbs := hbr.size
            go_wp2_with (at_builtin; refine app_ints rfl (.tmp 50) (.tmp 52) rfl w7.heap.size _ n _ rfl (hown.alloc _) _ 1 _ [x] rfl rfl (rowAt_one _ _ _) (by rintro ⟨⟩) (by omega) (by simp; omega) ?_; intro a9 c9 w9 hown9 hgrow9 hlies9)
            have hb9 : Below w7.heap.size w7 w9 := (hbr.alloc hbs _).grown hgrow9 (by simp; omega) (fun j hj => (hown.lt j hj).1)
            rw [← List.map_append] at hown9
            clear hgrow9 hlies9 hown
            go_wp2
            go_roundw
            case rel => exact ⟨k + 1, _, _, _, by omega, by go_num, rfl, by omega, by rw [HT.out, differ_snoc, if_pos rfl, addTo, if_neg HM.out]; exact hown9, hb9⟩
            case measure => simp [intOf]; omega
        · obtain rfl : k = xs.length := by omega
          have hns : n = (differ (fun _ => true) xs).length := by have := hown.1; rw [List.take_length] at this; simpa using this.symm
          have hsum : (((kinds xs false).length : Int) + ((kinds xs true).length : Int) == (n : Int)) = true := by
            rw [beq_iff_eq]
            have := HB.out
            omega
          have heq : (((kinds xs true).length : Int) == ((kinds xs true).length : Int)) = true := by simp
          have hj := (hj7.later hbr).toIntsRd
          have hb0r : Below w.heap.size w wr := hb07.trans (hbr.mono hb07.size)
          have hle1 := kinds_length false xs
          have hle2 := kinds_length true xs
          clear hns hown hbr
          go_wp2_with fail
          refine (specSlots_any _ _ _ _ _ hj (by omega)).mono ?_
          rintro e w8 ⟨rfl, hb8⟩
          have hb08 : Below w.heap.size w w8 := hb0r.trans (hb8.mono hb0r.size)
          go_wp2
          go_ret
          exact ⟨rfl, hb08⟩

end Go.Proofs.Ythadaohnanpmiaa
