
/-
  The library's slices.IndexFunc and ContainsFunc over slices of slices, at whatever function value answers a bool; slices.Index, Contains and Clone over ints: the walks.
-/
import Derived.Test.YtkhnhdgbbjppeaaMat
import Derived.Test.YtkhnhdgbbjppeaaBase
import Derived.Test.YtkhnhdgbbjppeaaIntClone
namespace Go.Proofs.Ytkhnhdgbbjppeaa
open Go.RowKit

/-- The function value answers p of each row, and changes nothing that was there. -/
structure BoolFn (w : World) (f : Nat) (caps : Array Value) (rows : List Hd) (p : Hd → Bool) : Prop where
  enter : ∀ v W, (callFunc f (#[v] ++ caps)).run Try.prog W = .ok (.enter f (#[v] ++ caps)) W
  calls : ∀ r ∈ rows, ∀ W, Below w.heap.size w W → Calls Try.prog f (#[r.val] ++ caps) W fun e w' => e = .returned (.bool (p r)) ∧ Below W.heap.size W w'

theorem BoolFn.later {w w' : World} {f : Nat} {caps : Array Value} {rows : List Hd} {p : Hd → Bool} (h : BoolFn w f caps rows p) (hb : Below w.heap.size w w') : BoolFn w' f caps rows p :=
  ⟨h.enter, fun r hr W hW => h.calls r hr W (hb.trans (hW.mono hb.size))⟩

/-- The index of the first row of which p holds, or -1. -/
def idxOf (p : Hd → Bool) : List Hd → Int
  | [] => -1
  | r :: rs => if p r then 0 else if idxOf p rs < 0 then -1 else idxOf p rs + 1
theorem idxOf_none {p : Hd → Bool} : ∀ {rs : List Hd}, (∀ r ∈ rs, p r = false) → idxOf p rs = -1
  | [], _ => rfl
  | r :: rs, h => by
    have h1 := h r (by simp)
    have h2 := idxOf_none (rs := rs) (fun x hx => h x (by simp [hx]))
    simp [idxOf, h1, h2]
theorem idxOf_some {p : Hd → Bool} : ∀ {rs : List Hd} {k : Nat} {r : Hd}, (∀ j x, j < k → rs[j]? = some x → p x = false) → rs[k]? = some r → p r = true → idxOf p rs = k
  | [], _, _, _, h, _ => by simp at h
  | r :: rs, 0, r', _, h, hp => by simp at h; subst h; simp [idxOf, hp]
  | r :: rs, k + 1, r', h, hr, hp => by
    have h1 := h 0 r (by omega) (by simp)
    have h2 := idxOf_some (rs := rs) (k := k) (r := r') (fun j x hj hx => h (j + 1) x (by omega) (by simpa using hx)) (by simpa using hr) hp
    simp only [idxOf, h1, h2, Bool.false_eq_true, if_false]
    rw [if_neg (by omega)]
    omega
theorem idxOf_nonneg {p : Hd → Bool} : ∀ rs : List Hd, decide (0 ≤ idxOf p rs) = rs.any p
  | [] => by simp [idxOf]
  | r :: rs => by
    have ih := idxOf_nonneg (p := p) rs
    by_cases hp : p r = true
    · simp [idxOf, hp]
    · have hp' : p r = false := by simpa using hp
      simp only [idxOf, hp', Bool.false_eq_true, if_false, List.any_cons, Bool.false_or, ← ih]
      by_cases h : idxOf p rs < 0
      · simp [h]
      · simp [h]; omega

set_option maxHeartbeats 400000 in
theorem indexFunc_any (f : Nat) (caps : Array Value) (p : Hd → Bool) (a : Option Addr) (len cap : Nat) (rows : List Hd) (w : World) (hin : MatRd w a len rows) (hf : BoolFn w f caps rows p) (hs : len ≤ 1099511627776) :
    Calls Try.prog 135 #[.slice a len cap, .func (.func f) #[] caps] w fun e w' => e = .returned (.int .i64 (idxOf p rows)) ∧ Below w.heap.size w w' := by
  have hen := hf.enter
  have HL := Lib.hid hin.length
  go_enter Try.func135, Try.ntmps135
  go_wp2
  go_loopw [8] (fun i wr => ∃ k : Nat, k ≤ len ∧ i = .int .i64 k ∧ Below w.heap.size w wr ∧ Hid (∀ j x, j < k → rows[j]? = some x → p x = false)) (fun i _ => len - (intOf i).toNat)
  case atStart => exact ⟨0, Nat.zero_le _, rfl, Below.refl _ _, Lib.hid (fun j x hj => by omega)⟩
  case round =>
    obtain ⟨k, hk, rfl, hbr, hno⟩ := hrel
    by_cases hlt : k < len
    · obtain ⟨b, off, ai, ci, xs, rfl, hx, hc, hi⟩ := (hin.later hbr).place hlt
      have hcall := hf.calls _ (List.mem_of_getElem? hx) wr hbr
      have HX := Lib.hid hx
      have HC := Lib.hid hcall
      clear hx hcall
      by_cases hp : p ⟨ai, ci, xs⟩ = true
      · have hidx := idxOf_some hno.out HX.out hp
        have HI := Lib.hid hidx
        have HP := Lib.hid hp
        clear hidx hp
        go_wp2_with fail
        refine HC.out.mono ?_
        rw [HP.out]
        rintro e w1 ⟨rfl, hb1⟩
        go_wp2
        go_ret
        exact ⟨ret_int HI.out.symm, hbr.trans (hb1.mono hbr.size)⟩
      · have hp' : p ⟨ai, ci, xs⟩ = false := by simpa using hp
        have HP := Lib.hid hp'
        clear hp hp'
        go_wp2_with fail
        refine HC.out.mono ?_
        rw [HP.out]
        rintro e w1 ⟨rfl, hb1⟩
        go_wp2
        go_roundw
        case rel =>
          refine ⟨k + 1, by omega, by go_num, hbr.trans (hb1.mono hbr.size), Lib.hid fun j x hj hjx => ?_⟩
          by_cases hjk : j = k
          · subst hjk
            rw [HX.out] at hjx
            cases hjx
            exact HP.out
          · exact hno.out j x (by omega) hjx
        case measure => simp [intOf]; omega
    · obtain rfl : k = len := by omega
      go_wp2
      go_ret
      refine ⟨ret_int ?_, hbr⟩
      rw [idxOf_none]
      intro r hr
      obtain ⟨j, hj⟩ := List.getElem?_of_mem hr
      exact hno.out j r (by have := (List.getElem?_eq_some_iff.1 hj).1; have := HL.out; omega) hj

theorem containsFunc_any (f : Nat) (caps : Array Value) (p : Hd → Bool) (a : Option Addr) (len cap : Nat) (rows : List Hd) (w : World) (hin : MatRd w a len rows) (hf : BoolFn w f caps rows p) (hs : len ≤ 1099511627776) :
    Calls Try.prog 88 #[.slice a len cap, .func (.func f) #[] caps] w fun e w' => e = .returned (.bool (rows.any p)) ∧ Below w.heap.size w w' := by
  have HI := Lib.hid (idxOf_nonneg (p := p) rows)
  go_enter Try.func88, Try.ntmps88
  go_wp2_with fail
  refine (indexFunc_any f caps p a len cap rows w hin hf hs).mono ?_
  rintro e w1 ⟨rfl, hb1⟩
  go_wp2
  go_ret
  exact ⟨ret_bool HI.out, hb1⟩

end Go.Proofs.Ytkhnhdgbbjppeaa
