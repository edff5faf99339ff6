
/-
  The library's slices.IndexFunc and ContainsFunc over ints; the program's test whether all are bytes.
-/
import Derived.Test.YtccfbnhlhjlmgaaDoorBase
import Derived.Test.YtccfbnhlhjlmgaaDoorEx2
namespace Go.Proofs.YtccfbnhlhjlmgaaDoor
open Go.RowKit

/-- The index of the first element of which p holds, or -1. -/
def idxP {α : Type} (p : α → Bool) : List α → Int
  | [] => -1
  | r :: rs => if p r then 0 else if idxP p rs < 0 then -1 else idxP p rs + 1
theorem idxP_none {α : Type} {p : α → Bool} : ∀ {rs : List α}, (∀ r ∈ rs, p r = false) → idxP p rs = -1
  | [], _ => rfl
  | r :: rs, h => by
    have h1 := h r (by simp)
    have h2 := idxP_none (rs := rs) (fun x hx => h x (by simp [hx]))
    simp [idxP, h1, h2]
theorem idxP_some {α : Type} {p : α → Bool} : ∀ {rs : List α} {k : Nat} {r : α}, (∀ (j : Nat) x, j < k → rs[j]? = some x → p x = false) → rs[k]? = some r → p r = true → idxP p rs = k
  | [], _, _, _, h, _ => by simp at h
  | r :: rs, 0, r', _, h, hp => by simp at h; subst h; simp [idxP, hp]
  | r :: rs, k + 1, r', h, hr, hp => by
    have h1 := h 0 r (by omega) (by simp)
    have h2 := idxP_some (rs := rs) (k := k) (r := r') (fun j x hj hx => h (j + 1) x (by omega) (by simpa using hx)) (by simpa using hr) hp
    simp only [idxP, h1, h2, Bool.false_eq_true, if_false]
    rw [if_neg (by omega)]
    omega
theorem idxP_nonneg {α : Type} {p : α → Bool} : ∀ rs : List α, decide (0 ≤ idxP p rs) = rs.any p
  | [] => by simp [idxP]
  | r :: rs => by
    have ih := idxP_nonneg (p := p) rs
    by_cases hp : p r = true
    · simp [idxP, hp]
    · have hp' : p r = false := by simpa using hp
      simp only [idxP, hp', Bool.false_eq_true, if_false, List.any_cons, Bool.false_or, ← ih]
      by_cases h : idxP p rs < 0
      · simp [h]
      · simp [h]; omega

/-- The function value answers p of each int, and changes nothing that was there. -/
structure IntFn (w : World) (f : Nat) (caps : Array Value) (xs : List Int) (p : Int → Bool) : Prop where
  enter : ∀ v W, (callFunc f (#[v] ++ caps)).run Tryd.prog W = .ok (.enter f (#[v] ++ caps)) W
  calls : ∀ x ∈ xs, ∀ W, Below w.heap.size w W → Calls Tryd.prog f (#[.int .i64 x] ++ caps) W fun e w' => e = .returned (.bool (p x)) ∧ Below W.heap.size W w'
set_option maxHeartbeats 400000 in
theorem indexInts_any (f : Nat) (caps : Array Value) (p : Int → Bool) (a : Option Addr) (len cap : Nat) (xs : List Int) (w : World) (hin : IntsRd w a len xs) (hf : IntFn w f caps xs p) (hs : len ≤ 1099511627776) :
    Calls Tryd.prog 143 #[.slice a len cap, .func (.func f) #[] caps] w fun e w' => e = .returned (.int .i64 (idxP p xs)) ∧ Below w.heap.size w w' := by
  have hen := hf.enter
  have HL := Lib.hid hin.length
  go_enter Tryd.func143, Tryd.ntmps143
  go_wp2
  go_loopw [8] (fun i wr => ∃ k : Nat, k ≤ len ∧ i = .int .i64 k ∧ Below w.heap.size w wr ∧ Hid (∀ (j : Nat) x, j < k → xs[j]? = some x → p x = false)) (fun i _ => len - (intOf i).toNat)
  case atStart => exact ⟨0, Nat.zero_le _, rfl, Below.refl _ _, Lib.hid (fun j x hj => by omega)⟩
  case round =>
    obtain ⟨k, hk, rfl, hbr, hno⟩ := hrel
    by_cases hlt : k < len
    · obtain ⟨b, off, x, rfl, hx, hc⟩ := (hin.later hbr).place hlt
      have hcall := hf.calls _ (List.mem_of_getElem? hx) wr hbr
      have HX := Lib.hid hx
      have HC := Lib.hid hcall
      clear hx hcall
      by_cases hp : p x = true
      · have hidx := idxP_some hno.out HX.out hp
        have HI := Lib.hid hidx
        have HP := Lib.hid hp
        clear hidx hp
        go_wp2_with fail
        refine HC.out.mono ?_
        rw [HP.out]
        rintro e w1 ⟨rfl, hb1⟩
        go_wp2
        go_ret
        exact ⟨ret_int HI.out.symm, hbr.trans (hb1.mono hbr.size)⟩
      · have hp' : p x = false := by simpa using hp
        have HP := Lib.hid hp'
        clear hp hp'
        go_wp2_with fail
        refine HC.out.mono ?_
        rw [HP.out]
        rintro e w1 ⟨rfl, hb1⟩
        go_wp2
        go_roundw
        case rel =>
          refine ⟨k + 1, by omega, by go_num, hbr.trans (hb1.mono hbr.size), Lib.hid fun j x hj hjx => ?_⟩
          by_cases hjk : j = k
          · subst hjk
            rw [HX.out] at hjx
            cases hjx
            exact HP.out
          · exact hno.out j x (by omega) hjx
        case measure => simp [intOf]; omega
    · obtain rfl : k = len := by omega
      go_wp2
      go_ret
      refine ⟨ret_int ?_, hbr⟩
      rw [idxP_none]
      intro r hr
      obtain ⟨j, hj⟩ := List.getElem?_of_mem hr
      exact hno.out j r (by have := (List.getElem?_eq_some_iff.1 hj).1; have := HL.out; omega) hj

theorem containsInts_any (f : Nat) (caps : Array Value) (p : Int → Bool) (a : Option Addr) (len cap : Nat) (xs : List Int) (w : World) (hin : IntsRd w a len xs) (hf : IntFn w f caps xs p) (hs : len ≤ 1099511627776) :
    Calls Tryd.prog 109 #[.slice a len cap, .func (.func f) #[] caps] w fun e w' => e = .returned (.bool (xs.any p)) ∧ Below w.heap.size w w' := by
  have HI := Lib.hid (idxP_nonneg (p := p) xs)
  go_enter Tryd.func109, Tryd.ntmps109
  go_wp2_with fail
  refine (indexInts_any f caps p a len cap xs w hin hf hs).mono ?_
  rintro e w1 ⟨rfl, hb1⟩
  go_wp2
  go_ret
  exact ⟨ret_bool HI.out, hb1⟩


theorem bytesOk1_any (x : Int) (w : World) : Calls Tryd.prog 110 #[.int .i64 x] w fun e w' => e = .returned (.bool (!inE 0 x 255)) ∧ w' = w := by
  have HQ := Lib.hid (isByteE_any x w)
  generalize inE 0 x 255 = c at HQ ⊢
  go_enter Tryd.func110, Tryd.ntmps110
  go_wp2_with fail
  refine HQ.out.mono ?_
  rintro e w1 ⟨rfl, rfl⟩
  go_wp2
  go_ret
  exact ⟨rfl, rfl⟩
/-- All are bytes. -/
def bytesB (vs : List Int) : Bool := vs.all fun v => inE 0 v 255
set_option maxHeartbeats 400000 in
theorem bytesOk_any (a : Option Addr) (len cap : Nat) (vs : List Int) (n : Nat) (w : World) (hin : IntsRd w a len vs) (hs : len ≤ 1099511627776) :
    Calls Tryd.prog 63 #[.slice a len cap, .int .i64 (n : Int)] w fun e w' => e = .returned (.bool (decide (len = n) && bytesB vs)) ∧ Below w.heap.size w w' := by
  have HC := Lib.hid (containsInts_any 110 #[] (fun v => !inE 0 v 255) a len cap vs w hin ⟨fun v W => by kernel_rfl, fun x _ W _ => (bytesOk1_any x W).mono fun e w' h => ⟨h.1, by rw [h.2]; exact Below.refl _ _⟩⟩ hs)
  have HB := Lib.hid (show (!vs.any fun v => !inE 0 v 255) = bytesB vs by rw [bytesB, List.not_any_eq_all_not]; simp)
  by_cases hl : len = n
  · have h1 : ((len : Int) == (n : Int)) = true := by simp [hl]
    rw [decide_eq_true hl, Bool.true_and]
    clear hin hs
    generalize (vs.any fun v => !inE 0 v 255) = c at HC HB
    clear hl
    go_enter Tryd.func63, Tryd.ntmps63
    go_wp2_with fail
    refine HC.out.mono ?_
    rintro e w1 ⟨rfl, hb1⟩
    have HE := Lib.hid hb1
    clear hb1
    go_wp2
    go_ret
    exact ⟨by rw [← HB.out]; rfl, HE.out⟩
  · have h1 : ((len : Int) == (n : Int)) = false := by simp; omega
    rw [decide_eq_false hl, Bool.false_and]
    clear hl hin hs HC HB
    go_enter Tryd.func63, Tryd.ntmps63
    go_wp2
    go_ret
    exact ⟨rfl, Below.refl _ _⟩

end Go.Proofs.YtccfbnhlhjlmgaaDoor
