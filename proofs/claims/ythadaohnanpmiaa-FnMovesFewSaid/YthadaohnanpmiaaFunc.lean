/-
  The library's slices.IndexFunc and ContainsFunc over slices of slices, at whatever function value answers a bool; slices.Index, Contains and Clone over ints: the walks.
-/
import Derived.Test.YthadaohnanpmiaaMark
namespace Go.Proofs.Ythadaohnanpmiaa
open Go.RowKit

/-- The function value answers p of each row, and changes nothing that was there. -/
structure BoolFn (w : World) (f : Nat) (caps : Array Value) (rows : List Hd) (p : Hd → Bool) : Prop where
  enter : ∀ v W, (callFunc f (#[v] ++ caps)).run Try.prog W = .ok (.enter f (#[v] ++ caps)) W
  calls : ∀ r ∈ rows, ∀ W, Below w.heap.size w W → Calls Try.prog f (#[r.val] ++ caps) W fun e w' => e = .returned (.bool (p r)) ∧ Below W.heap.size W w'

theorem BoolFn.later {w w' : World} {f : Nat} {caps : Array Value} {rows : List Hd} {p : Hd → Bool} (h : BoolFn w f caps rows p) (hb : Below w.heap.size w w') : BoolFn w' f caps rows p :=
  ⟨h.enter, fun r hr W hW => h.calls r hr W (hb.trans (hW.mono hb.size))⟩

/-- The index of the first row of which p holds, or -1. -/
def idxOf (p : Hd → Bool) : List Hd → Int
  | [] => -1
  | r :: rs => if p r then 0 else if idxOf p rs < 0 then -1 else idxOf p rs + 1
theorem idxOf_none {p : Hd → Bool} : ∀ {rs : List Hd}, (∀ r ∈ rs, p r = false) → idxOf p rs = -1
  | [], _ => rfl
  | r :: rs, h => by
    have h1 := h r (by simp)
    have h2 := idxOf_none (rs := rs) (fun x hx => h x (by simp [hx]))
    simp [idxOf, h1, h2]
theorem idxOf_some {p : Hd → Bool} : ∀ {rs : List Hd} {k : Nat} {r : Hd}, (∀ j x, j < k → rs[j]? = some x → p x = false) → rs[k]? = some r → p r = true → idxOf p rs = k
  | [], _, _, _, h, _ => by simp at h
  | r :: rs, 0, r', _, h, hp => by simp at h; subst h; simp [idxOf, hp]
  | r :: rs, k + 1, r', h, hr, hp => by
    have h1 := h 0 r (by omega) (by simp)
    have h2 := idxOf_some (rs := rs) (k := k) (r := r') (fun j x hj hx => h (j + 1) x (by omega) (by simpa using hx)) (by simpa using hr) hp
    simp only [idxOf, h1, h2, Bool.false_eq_true, if_false]
    rw [if_neg (by omega)]
    omega
theorem idxOf_nonneg {p : Hd → Bool} : ∀ rs : List Hd, decide (0 ≤ idxOf p rs) = rs.any p
  | [] => by simp [idxOf]
  | r :: rs => by
    have ih := idxOf_nonneg (p := p) rs
    by_cases hp : p r = true
    · simp [idxOf, hp]
    · have hp' : p r = false := by simpa using hp
      simp only [idxOf, hp', Bool.false_eq_true, if_false, List.any_cons, Bool.false_or, ← ih]
      by_cases h : idxOf p rs < 0
      · simp [h]
      · simp [h]; omega

set_option maxHeartbeats 400000 in
theorem indexFunc_any (f : Nat) (caps : Array Value) (p : Hd → Bool) (a : Option Addr) (len cap : Nat) (rows : List Hd) (w : World) (hin : MatRd w a len rows) (hf : BoolFn w f caps rows p) (hs : len ≤ 1099511627776) :
    Calls Try.prog 65 #[.slice a len cap, .func (.func f) #[] caps] w fun e w' => e = .returned (.int .i64 (idxOf p rows)) ∧ Below w.heap.size w w' := by
  have hen := hf.enter
  have HL := Lib.hid hin.length
  go_enter Try.func65, Try.ntmps65
  go_wp2
  go_loopw [8] (fun i wr => ∃ k : Nat, k ≤ len ∧ i = .int .i64 k ∧ Below w.heap.size w wr ∧ Hid (∀ j x, j < k → rows[j]? = some x → p x = false)) (fun i _ => len - (intOf i).toNat)
  case atStart => exact ⟨0, Nat.zero_le _, rfl, Below.refl _ _, Lib.hid (fun j x hj => by omega)⟩
  case round =>
    obtain ⟨k, hk, rfl, hbr, hno⟩ := hrel
    by_cases hlt : k < len
    · obtain ⟨b, off, ai, ci, xs, rfl, hx, hc, hi⟩ := (hin.later hbr).place hlt
      have hcall := hf.calls _ (List.mem_of_getElem? hx) wr hbr
      have HX := Lib.hid hx
      have HC := Lib.hid hcall
      clear hx hcall
      by_cases hp : p ⟨ai, ci, xs⟩ = true
      · have hidx := idxOf_some hno.out HX.out hp
        have HI := Lib.hid hidx
        have HP := Lib.hid hp
        clear hidx hp
        go_wp2_with fail
        refine HC.out.mono ?_
        rw [HP.out]
        rintro e w1 ⟨rfl, hb1⟩
        go_wp2
        go_ret
        exact ⟨ret_int HI.out.symm, hbr.trans (hb1.mono hbr.size)⟩
      · have hp' : p ⟨ai, ci, xs⟩ = false := by simpa using hp
        have HP := Lib.hid hp'
        clear hp hp'
        go_wp2_with fail
        refine HC.out.mono ?_
        rw [HP.out]
        rintro e w1 ⟨rfl, hb1⟩
        go_wp2
        go_roundw
        case rel =>
          refine ⟨k + 1, by omega, by go_num, hbr.trans (hb1.mono hbr.size), Lib.hid fun j x hj hjx => ?_⟩
          by_cases hjk : j = k
          · subst hjk
            rw [HX.out] at hjx
            cases hjx
            exact HP.out
          · exact hno.out j x (by omega) hjx
        case measure => simp [intOf]; omega
    · obtain rfl : k = len := by omega
      go_wp2
      go_ret
      refine ⟨ret_int ?_, hbr⟩
      rw [idxOf_none]
      intro r hr
      obtain ⟨j, hj⟩ := List.getElem?_of_mem hr
      exact hno.out j r (by have := (List.getElem?_eq_some_iff.1 hj).1; have := HL.out; omega) hj

theorem containsFunc_any (f : Nat) (caps : Array Value) (p : Hd → Bool) (a : Option Addr) (len cap : Nat) (rows : List Hd) (w : World) (hin : MatRd w a len rows) (hf : BoolFn w f caps rows p) (hs : len ≤ 1099511627776) :
    Calls Try.prog 67 #[.slice a len cap, .func (.func f) #[] caps] w fun e w' => e = .returned (.bool (rows.any p)) ∧ Below w.heap.size w w' := by
  have HI := Lib.hid (idxOf_nonneg (p := p) rows)
  go_enter Try.func67, Try.ntmps67
  go_wp2_with fail
  refine (indexFunc_any f caps p a len cap rows w hin hf hs).mono ?_
  rintro e w1 ⟨rfl, hb1⟩
  go_wp2
  go_ret
  exact ⟨ret_bool HI.out, hb1⟩

/-! ### ints -/
/-- The index of the first element that is x, or -1. -/
def idxInt (x : Int) : List Int → Int
  | [] => -1
  | y :: ys => if y = x then 0 else if idxInt x ys < 0 then -1 else idxInt x ys + 1
theorem idxInt_none {x : Int} : ∀ {ys : List Int}, (∀ y ∈ ys, y ≠ x) → idxInt x ys = -1
  | [], _ => rfl
  | y :: ys, h => by
    have h1 := h y (by simp)
    have h2 := idxInt_none (ys := ys) (fun z hz => h z (by simp [hz]))
    simp [idxInt, h1, h2]
theorem idxInt_some {x : Int} : ∀ {ys : List Int} {k : Nat}, (∀ j y, j < k → ys[j]? = some y → y ≠ x) → ys[k]? = some x → idxInt x ys = k
  | [], _, _, h => by simp at h
  | y :: ys, 0, _, h => by simp at h; subst h; simp [idxInt]
  | y :: ys, k + 1, h, hx => by
    have h1 := h 0 y (by omega) (by simp)
    have h2 := idxInt_some (ys := ys) (k := k) (fun j z hj hz => h (j + 1) z (by omega) (by simpa using hz)) (by simpa using hx)
    simp only [idxInt, h1, h2, if_false]
    rw [if_neg (by omega)]
    omega
theorem idxInt_nonneg {x : Int} : ∀ ys : List Int, decide (0 ≤ idxInt x ys) = decide (x ∈ ys)
  | [] => by simp [idxInt]
  | y :: ys => by
    have ih := idxInt_nonneg (x := x) ys
    simp only [decide_eq_decide] at ih ⊢
    by_cases hp : y = x
    · simp [idxInt, hp]
    · have hp' : ¬ x = y := fun h => hp h.symm
      simp only [idxInt, hp, if_false, List.mem_cons, hp', false_or, ← ih]
      by_cases h : idxInt x ys < 0
      · simp [h]
      · simp [h]; omega

set_option maxHeartbeats 400000 in
theorem index_any (a : Option Addr) (len cap : Nat) (xs : List Int) (x : Int) (w : World) (hin : IntsRd w a len xs) (hs : len ≤ 1099511627776) :
    Calls Try.prog 78 #[.slice a len cap, .int .i64 x] w fun e w' => e = .returned (.int .i64 (idxInt x xs)) ∧ w = w' := by
  have HL := Lib.hid hin.length
  go_enter Try.func78, Try.ntmps78
  go_wp2
  go_loop [8] (fun i => ∃ k : Nat, k ≤ len ∧ i = .int .i64 k ∧ Hid (∀ j y, j < k → xs[j]? = some y → y ≠ x)) (fun i => len - (intOf i).toNat)
  case atStart => exact ⟨0, Nat.zero_le _, rfl, Lib.hid (fun j x hj => by omega)⟩
  case round =>
    obtain ⟨k, hk, rfl, hno⟩ := hrel
    by_cases hlt : k < len
    · obtain ⟨b, off, y, rfl, hy, hc⟩ := hin.place hlt
      have HY := Lib.hid hy
      clear hy
      by_cases hyx : y = x
      · subst hyx
        have ht : (y == y) = true := by simp
        have HI := Lib.hid (idxInt_some hno.out HY.out)
        go_wp2
        go_ret
        exact ⟨ret_int HI.out.symm, rfl⟩
      · have ht : (x == y) = false := by simp; exact fun h => hyx h.symm
        have HN := Lib.hid hyx
        clear hyx
        go_wp2
        go_round
        case rel =>
          refine ⟨k + 1, by omega, by go_num, Lib.hid fun j z hj hjz => ?_⟩
          by_cases hjk : j = k
          · subst hjk
            rw [HY.out] at hjz
            cases hjz
            exact HN.out
          · exact hno.out j z (by omega) hjz
        case measure => simp [intOf]; omega
    · obtain rfl : k = len := by omega
      go_wp2
      go_ret
      refine ⟨ret_int ?_, rfl⟩
      rw [idxInt_none]
      intro y hy
      obtain ⟨j, hj⟩ := List.getElem?_of_mem hy
      exact hno.out j y (by have := (List.getElem?_eq_some_iff.1 hj).1; have := HL.out; omega) hj

theorem contains_any (a : Option Addr) (len cap : Nat) (xs : List Int) (x : Int) (w : World) (hin : IntsRd w a len xs) (hs : len ≤ 1099511627776) :
    Calls Try.prog 77 #[.slice a len cap, .int .i64 x] w fun e w' => e = .returned (.bool (decide (x ∈ xs))) ∧ w = w' := by
  have HI := Lib.hid (idxInt_nonneg (x := x) xs)
  go_enter Try.func77, Try.ntmps77
  go_wp2_with fail
  refine (index_any a len cap xs x w hin hs).mono ?_
  rintro e w1 ⟨rfl, rfl⟩
  go_wp2
  go_ret
  exact ⟨ret_bool HI.out, rfl⟩

set_option maxHeartbeats 400000 in
/-- Clone of a slice that is not nil. -/
theorem clone_any (b off : Nat) (len cap : Nat) (xs : List Int) (w : World) (hin : IntsRd w (some ⟨b, off, none⟩) len xs) (hs : len ≤ 1099511627776) :
    Calls Try.prog 52 #[.slice (some ⟨b, off, none⟩) len cap] w fun e w' => RetInts w xs len e w' := by
  have hnn := @Lib.run_eql_slice_nil Try.prog
  go_enter Try.func52, Try.ntmps52
  go_wp2_with (at_builtin; refine app_ints rfl (.tmp 5) (.tmp 6) rfl w.heap.size _ 0 [] rfl (own_empty _ _ _ _ (Nat.le_refl _)) _ len _ xs rfl hin.length (hin.row.later ((Below.refl _ _).alloc (Nat.le_refl _) _)) (by rintro ⟨⟩) (by omega) (by simp) ?_; intro a1 c1 w1 hown hgrow hlies)
  have hb1 : Below w.heap.size w w1 := ((Below.refl _ _).alloc (Nat.le_refl _) _).grown hgrow (by simp) (fun j hj => ((own_empty w w.heap.size 3 1 (Nat.le_refl _)).lt j hj).1)
  simp only [Nat.zero_add, List.nil_append] at hown
  clear hgrow hlies
  go_wp2
  go_ret
  exact ⟨_, _, rfl, hown, hb1⟩
theorem clone_nil (w : World) : Calls Try.prog 52 #[.slice none 0 0] w fun e w' => e = .returned (.slice none 0 0) ∧ w = w' := by
  have hnn := @Lib.run_eql_slice_nil Try.prog
  go_enter Try.func52, Try.ntmps52
  go_wp2
  go_ret
  exact ⟨rfl, rfl⟩

theorem clone_ret (a : Option Addr) (len cap : Nat) (xs : List Int) (w : World) (hin : IntsAt w a len cap xs) (hs : len ≤ 1099511627776) :
    Calls Try.prog 52 #[.slice a len cap] w fun e w' => RetInts w xs len e w' := by
  rcases hin.addr with ⟨rfl, rfl⟩ | ⟨b, off, rfl⟩
  · have h0 : len = 0 := by have := hin.le; omega
    subst h0
    have hx : xs = [] := List.eq_nil_of_length_eq_zero hin.length
    subst hx
    exact (clone_nil w).mono fun _ _ ⟨he, hw⟩ => ⟨none, 0, he, World.ownsRow_nil _ _ _ _, by rw [← hw]; exact Below.refl _ _⟩
  · exact clone_any b off len cap xs w hin.toIntsRd hs

end Go.Proofs.Ythadaohnanpmiaa
