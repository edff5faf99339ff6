
/-
  The library's slices.IndexFunc and ContainsFunc over ints and over blocks; the program's test whether a code is a graph.
-/
import Derived.Test.YtonlidgmfmgcmaaGreatGr
namespace Go.Proofs.YtonlidgmfmgcmaaGreat
open Go.RowKit

theorem within_any (x lo hi : Int) (w : World) : Calls Tryz.prog 38 #[.int .i64 x, .int .i64 lo, .int .i64 hi] w fun e w' => e = .returned (.bool (decide (lo ≤ x) && decide (x ≤ hi))) ∧ w = w' := by
  by_cases h1 : lo ≤ x
  · have d1 : decide (lo ≤ x) = true := decide_eq_true h1
    by_cases h2 : x ≤ hi
    · have d2 : decide (x ≤ hi) = true := decide_eq_true h2
      go_enter Tryz.func38, Tryz.ntmps38
      go_wp2
      go_ret
      exact ⟨by rw [d1, d2]; rfl, rfl⟩
    · have d2 : decide (x ≤ hi) = false := decide_eq_false h2
      go_enter Tryz.func38, Tryz.ntmps38
      go_wp2
      go_ret
      exact ⟨rfl, rfl⟩
  · have d1 : decide (lo ≤ x) = false := decide_eq_false h1
    go_enter Tryz.func38, Tryz.ntmps38
    go_wp2
    go_ret
    exact ⟨rfl, rfl⟩
theorem within_same (x lo hi : Int) (w : World) : Calls Tryz.prog 38 #[.int .i64 x, .int .i64 lo, .int .i64 hi] w fun e w' => e = .returned (.bool (decide (lo ≤ x) && decide (x ≤ hi))) ∧ w' = w :=
  (within_any x lo hi w).mono fun _ _ ⟨he, hw⟩ => ⟨he, hw.symm⟩

/-- The index of the first element of which p holds, or -1. -/
def idxP {α : Type} (p : α → Bool) : List α → Int
  | [] => -1
  | r :: rs => if p r then 0 else if idxP p rs < 0 then -1 else idxP p rs + 1
theorem idxP_none {α : Type} {p : α → Bool} : ∀ {rs : List α}, (∀ r ∈ rs, p r = false) → idxP p rs = -1
  | [], _ => rfl
  | r :: rs, h => by
    have h1 := h r (by simp)
    have h2 := idxP_none (rs := rs) (fun x hx => h x (by simp [hx]))
    simp [idxP, h1, h2]
theorem idxP_some {α : Type} {p : α → Bool} : ∀ {rs : List α} {k : Nat} {r : α}, (∀ (j : Nat) x, j < k → rs[j]? = some x → p x = false) → rs[k]? = some r → p r = true → idxP p rs = k
  | [], _, _, _, h, _ => by simp at h
  | r :: rs, 0, r', _, h, hp => by simp at h; subst h; simp [idxP, hp]
  | r :: rs, k + 1, r', h, hr, hp => by
    have h1 := h 0 r (by omega) (by simp)
    have h2 := idxP_some (rs := rs) (k := k) (r := r') (fun j x hj hx => h (j + 1) x (by omega) (by simpa using hx)) (by simpa using hr) hp
    simp only [idxP, h1, h2, Bool.false_eq_true, if_false]
    rw [if_neg (by omega)]
    omega
theorem idxP_nonneg {α : Type} {p : α → Bool} : ∀ rs : List α, decide (0 ≤ idxP p rs) = rs.any p
  | [] => by simp [idxP]
  | r :: rs => by
    have ih := idxP_nonneg (p := p) rs
    by_cases hp : p r = true
    · simp [idxP, hp]
    · have hp' : p r = false := by simpa using hp
      simp only [idxP, hp', Bool.false_eq_true, if_false, List.any_cons, Bool.false_or, ← ih]
      by_cases h : idxP p rs < 0
      · simp [h]
      · simp [h]; omega

/-- The function value answers p of each int, and changes nothing that was there. -/
structure IntFn (w : World) (f : Nat) (caps : Array Value) (xs : List Int) (p : Int → Bool) : Prop where
  enter : ∀ v W, (callFunc f (#[v] ++ caps)).run Tryz.prog W = .ok (.enter f (#[v] ++ caps)) W
  calls : ∀ x ∈ xs, ∀ W, Below w.heap.size w W → Calls Tryz.prog f (#[.int .i64 x] ++ caps) W fun e w' => e = .returned (.bool (p x)) ∧ Below W.heap.size W w'
/-- The same of blocks. -/
structure BlockFn (w : World) (f : Nat) (caps : Array Value) (xs : List BlockD) (p : BlockD → Bool) : Prop where
  enter : ∀ v W, (callFunc f (#[v] ++ caps)).run Tryz.prog W = .ok (.enter f (#[v] ++ caps)) W
  calls : ∀ x ∈ xs, ∀ cs W, Below w.heap.size w W → BlockR W cs x → Calls Tryz.prog f (#[.agg (List.toArray cs)] ++ caps) W fun e w' => e = .returned (.bool (p x)) ∧ Below W.heap.size W w'

set_option maxHeartbeats 400000 in
theorem indexInts_any (f : Nat) (caps : Array Value) (p : Int → Bool) (a : Option Addr) (len cap : Nat) (xs : List Int) (w : World) (hin : IntsRd w a len xs) (hf : IntFn w f caps xs p) (hs : len ≤ 1099511627776) :
    Calls Tryz.prog 83 #[.slice a len cap, .func (.func f) #[] caps] w fun e w' => e = .returned (.int .i64 (idxP p xs)) ∧ Below w.heap.size w w' := by
  have hen := hf.enter
  have HL := Lib.hid hin.length
  go_enter Tryz.func83, Tryz.ntmps83
  go_wp2
  go_loopw [8] (fun i wr => ∃ k : Nat, k ≤ len ∧ i = .int .i64 k ∧ Below w.heap.size w wr ∧ Hid (∀ (j : Nat) x, j < k → xs[j]? = some x → p x = false)) (fun i _ => len - (intOf i).toNat)
  case atStart => exact ⟨0, Nat.zero_le _, rfl, Below.refl _ _, Lib.hid (fun j x hj => by omega)⟩
  case round =>
    obtain ⟨k, hk, rfl, hbr, hno⟩ := hrel
    by_cases hlt : k < len
    · obtain ⟨b, off, x, rfl, hx, hc⟩ := (hin.later hbr).place hlt
      have hcall := hf.calls _ (List.mem_of_getElem? hx) wr hbr
      have HX := Lib.hid hx
      have HC := Lib.hid hcall
      clear hx hcall
      by_cases hp : p x = true
      · have hidx := idxP_some hno.out HX.out hp
        have HI := Lib.hid hidx
        have HP := Lib.hid hp
        clear hidx hp
        go_wp2_with fail
        refine HC.out.mono ?_
        rw [HP.out]
        rintro e w1 ⟨rfl, hb1⟩
        go_wp2
        go_ret
        exact ⟨ret_int HI.out.symm, hbr.trans (hb1.mono hbr.size)⟩
      · have hp' : p x = false := by simpa using hp
        have HP := Lib.hid hp'
        clear hp hp'
        go_wp2_with fail
        refine HC.out.mono ?_
        rw [HP.out]
        rintro e w1 ⟨rfl, hb1⟩
        go_wp2
        go_roundw
        case rel =>
          refine ⟨k + 1, by omega, by go_num, hbr.trans (hb1.mono hbr.size), Lib.hid fun j x hj hjx => ?_⟩
          by_cases hjk : j = k
          · subst hjk
            rw [HX.out] at hjx
            cases hjx
            exact HP.out
          · exact hno.out j x (by omega) hjx
        case measure => simp [intOf]; omega
    · obtain rfl : k = len := by omega
      go_wp2
      go_ret
      refine ⟨ret_int ?_, hbr⟩
      rw [idxP_none]
      intro r hr
      obtain ⟨j, hj⟩ := List.getElem?_of_mem hr
      exact hno.out j r (by have := (List.getElem?_eq_some_iff.1 hj).1; have := HL.out; omega) hj

theorem containsInts_any (f : Nat) (caps : Array Value) (p : Int → Bool) (a : Option Addr) (len cap : Nat) (xs : List Int) (w : World) (hin : IntsRd w a len xs) (hf : IntFn w f caps xs p) (hs : len ≤ 1099511627776) :
    Calls Tryz.prog 60 #[.slice a len cap, .func (.func f) #[] caps] w fun e w' => e = .returned (.bool (xs.any p)) ∧ Below w.heap.size w w' := by
  have HI := Lib.hid (idxP_nonneg (p := p) xs)
  go_enter Tryz.func60, Tryz.ntmps60
  go_wp2_with fail
  refine (indexInts_any f caps p a len cap xs w hin hf hs).mono ?_
  rintro e w1 ⟨rfl, hb1⟩
  go_wp2
  go_ret
  exact ⟨ret_bool HI.out, hb1⟩

/-! ### is it a graph? -/
theorem any_nx (g : List (List Int)) (bs : List BlockD) (hg : g = bs.map (·.nx)) : bs.any (fun x => x.nx.any (fun y => !okN g.length y)) = !(g.all (fun l => l.all (okN g.length))) := by
  generalize g.length = n
  subst hg
  induction bs with
  | nil => rfl
  | cons b bs ih =>
    rw [List.any_cons, ih, List.map_cons, List.all_cons, Bool.not_and]
    congr 1
    induction b.nx with
    | nil => rfl
    | cons x xs ih2 => rw [List.any_cons, ih2, List.all_cons, Bool.not_and]

end Go.Proofs.YtonlidgmfmgcmaaGreat
