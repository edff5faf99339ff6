
/-
  MachValid: the program's.
-/
import Derived.Test.YtdkafajmhgfkoaaDoorMv2
namespace Go.Proofs.YtdkafajmhgfkoaaDoor
open Go.RowKit

/-- The index of the first element of which p holds, or -1. -/
def idxM {α : Type} (p : α → Bool) : List α → Int
  | [] => -1
  | r :: rs => if p r then 0 else if idxM p rs < 0 then -1 else idxM p rs + 1
theorem idxM_none {α : Type} {p : α → Bool} : ∀ {rs : List α}, (∀ r ∈ rs, p r = false) → idxM p rs = -1
  | [], _ => rfl
  | r :: rs, h => by
    have h1 := h r (by simp)
    have h2 := idxM_none (rs := rs) (fun x hx => h x (by simp [hx]))
    simp [idxM, h1, h2]
theorem idxM_some {α : Type} {p : α → Bool} : ∀ {rs : List α} {k : Nat} {r : α}, (∀ (j : Nat) x, j < k → rs[j]? = some x → p x = false) → rs[k]? = some r → p r = true → idxM p rs = k
  | [], _, _, _, h, _ => by simp at h
  | r :: rs, 0, r', _, h, hp => by simp at h; subst h; simp [idxM, hp]
  | r :: rs, k + 1, r', h, hr, hp => by
    have h1 := h 0 r (by omega) (by simp)
    have h2 := idxM_some (rs := rs) (k := k) (r := r') (fun j x hj hx => h (j + 1) x (by omega) (by simpa using hx)) (by simpa using hr) hp
    simp only [idxM, h1, h2, Bool.false_eq_true, if_false]
    rw [if_neg (by omega)]
    omega
theorem idxM_nonneg {α : Type} {p : α → Bool} : ∀ rs : List α, decide (0 ≤ idxM p rs) = rs.any p
  | [] => by simp [idxM]
  | r :: rs => by
    have ih := idxM_nonneg (p := p) rs
    by_cases hp : p r = true
    · simp [idxM, hp]
    · have hp' : p r = false := by simpa using hp
      simp only [idxM, hp', Bool.false_eq_true, if_false, List.any_cons, Bool.false_or, ← ih]
      by_cases h : idxM p rs < 0
      · simp [h]
      · simp [h]; omega

/-- The function value answers p of each instruction, and changes nothing that was there. -/
structure MinsFn (w : World) (f : Nat) (caps : Array Value) (xs : List MinsD) (p : MinsD → Bool) : Prop where
  enter : ∀ v W, (callFunc f (#[v] ++ caps)).run Tryd.prog W = .ok (.enter f (#[v] ++ caps)) W
  calls : ∀ x ∈ xs, ∀ cs W, Below w.heap.size w W → MinsR W cs x → Calls Tryd.prog f (#[.agg (List.toArray cs)] ++ caps) W fun e w' => e = .returned (.bool (p x)) ∧ Below W.heap.size W w'

set_option maxHeartbeats 800000 in
theorem indexMins_any (f : Nat) (caps : Array Value) (p : MinsD → Bool) (a : Option Addr) (len cap : Nat) (xs : List MinsD) (w : World) (hin : SliceRd 5 MinsR w a len xs) (hf : MinsFn w f caps xs p) (hs : len ≤ 1099511627776) :
    Calls Tryd.prog 41 #[.slice a len cap, .func (.func f) #[] caps] w fun e w' => e = .returned (.int .i64 (idxM p xs)) ∧ Below w.heap.size w w' := by
  have hen := hf.enter
  have HL := Lib.hid hin.length
  go_enter Tryd.func41, Tryd.ntmps41
  go_wp2
  go_loopw [8] (fun i wr => ∃ k : Nat, k ≤ len ∧ i = .int .i64 k ∧ Below w.heap.size w wr ∧ Hid (∀ (j : Nat) x, j < k → xs[j]? = some x → p x = false)) (fun i _ => len - (intOf i).toNat)
  case atStart => exact ⟨0, Nat.zero_le _, rfl, Below.refl _ _, Lib.hid (fun j x hj => by omega)⟩
  case round =>
    obtain ⟨k, hk, rfl, hbr, hno⟩ := hrel
    by_cases hlt : k < len
    · obtain ⟨b, off, op, fa, fb, fc, fn, rfl, hx, c0, c1, c2, c3, c4, hR⟩ := mins_place (hin.later minsR_lasts hbr) hlt
      have hcall := hf.calls _ (List.mem_of_getElem? hx) _ wr hbr hR
      have HX := Lib.hid hx
      have HC := Lib.hid hcall
      clear hx hcall hR
      by_cases hp : p ⟨op, fa, fb, fc, fn⟩ = true
      · have hidx := idxM_some hno.out HX.out hp
        have HI := Lib.hid hidx
        have HP := Lib.hid hp
        clear hidx hp
        go_wp2_with fail
        refine HC.out.mono ?_
        rw [HP.out]
        rintro e w1 ⟨rfl, hb1⟩
        go_wp2
        go_ret
        exact ⟨ret_int HI.out.symm, hbr.trans (hb1.mono hbr.size)⟩
      · have hp' : p ⟨op, fa, fb, fc, fn⟩ = false := by simpa using hp
        have HP := Lib.hid hp'
        clear hp hp'
        go_wp2_with fail
        refine HC.out.mono ?_
        rw [HP.out]
        rintro e w1 ⟨rfl, hb1⟩
        go_wp2
        go_roundw
        case rel =>
          refine ⟨k + 1, by omega, by go_num, hbr.trans (hb1.mono hbr.size), Lib.hid fun j x hj hjx => ?_⟩
          by_cases hjk : j = k
          · subst hjk
            rw [HX.out] at hjx
            cases hjx
            exact HP.out
          · exact hno.out j x (by omega) hjx
        case measure => simp [intOf]; omega
    · obtain rfl : k = len := by omega
      go_wp2
      go_ret
      refine ⟨ret_int ?_, hbr⟩
      rw [idxM_none]
      intro r hr
      obtain ⟨j, hj⟩ := List.getElem?_of_mem hr
      exact hno.out j r (by have := (List.getElem?_eq_some_iff.1 hj).1; have := HL.out; omega) hj

theorem containsMins_any (f : Nat) (caps : Array Value) (p : MinsD → Bool) (a : Option Addr) (len cap : Nat) (xs : List MinsD) (w : World) (hin : SliceRd 5 MinsR w a len xs) (hf : MinsFn w f caps xs p) (hs : len ≤ 1099511627776) :
    Calls Tryd.prog 23 #[.slice a len cap, .func (.func f) #[] caps] w fun e w' => e = .returned (.bool (xs.any p)) ∧ Below w.heap.size w w' := by
  have HI := Lib.hid (idxM_nonneg (p := p) xs)
  go_enter Tryd.func23, Tryd.ntmps23
  go_wp2_with fail
  refine (indexMins_any f caps p a len cap xs w hin hf hs).mono ?_
  rintro e w1 ⟨rfl, hb1⟩
  go_wp2
  go_ret
  exact ⟨ret_bool HI.out, hb1⟩



theorem machValid1_any (fs : List MfnD) (a : Option Addr) (c k : Nat) (f : MfnD) (hx : fs[k]? = some f) (hfs : fs.length ≤ 1048576) (hfl : f.ins.length ≤ 1048576) (hp : 0 ≤ f.params ∧ f.params ≤ 3) (hsl : 0 ≤ f.slots ∧ f.slots ≤ 64) (cs : List Value) (x : MinsD) (p1 p2 : Nat) (w : World) (hF : FormsAt w) (hM : SliceRd 3 MfnR w a fs.length fs) (hR : MinsR w cs x) (h1 : w.cell? ⟨p1, 0, none⟩ = some (.slice a fs.length c)) (h2 : w.cell? ⟨p2, 0, none⟩ = some (.int .i64 (k : Int))) :
    Calls Tryd.prog 24 #[.agg cs.toArray, .pointer (some ⟨p1, 0, none⟩), .pointer (some ⟨p2, 0, none⟩)] w fun e w' => e = .returned (.bool (!insV (k : Int) f x)) ∧ Below w.heap.size w w' := by
  obtain rfl := hR
  obtain ⟨op, fa, fb, fc, fn⟩ := x
  have hb0 : Below w.heap.size w (w.alloc (.cells #[.int .i64 op, .int .i64 fa, .int .i64 fb, .int .i64 fc, .int .i64 fn] 41)) := (Below.refl _ _).alloc (Nat.le_refl _) _
  have k1 := cell_later hb0 h1
  have k2 := cell_later hb0 h2
  have hr := heap_alloc_new w (.cells #[.int .i64 op, .int .i64 fa, .int .i64 fb, .int .i64 fc, .int .i64 fn] 41)
  have d0 := cell_of_row _ _ 0 _ _ _ hr
  have d1 := cell_of_row _ _ 1 _ _ _ hr
  have d2 := cell_of_row _ _ 2 _ _ _ hr
  have d3 := cell_of_row _ _ 3 _ _ _ hr
  have d4 := cell_of_row _ _ 4 _ _ _ hr
  simp only [List.getElem?_toArray, List.getElem?_cons_zero, List.getElem?_cons_succ] at d0 d1 d2 d3 d4
  have HM := Lib.hid (And.intro hb0 (minsOk_any fs a c k f hx hfs hfl hp hsl ⟨op, fa, fb, fc, fn⟩ _ (hF.later hb0) (hM.later mfnR_lasts hb0)))
  clear hx hfs hfl hp hsl hF hM h1 h2 hr hb0
  show Calls _ _ #[.agg #[.int .i64 op, .int .i64 fa, .int .i64 fb, .int .i64 fc, .int .i64 fn], _, _] w _
  go_enter Tryd.func24, Tryd.ntmps24
  go_wp2_with fail
  refine HM.out.2.mono ?_
  rintro e w2 ⟨rfl, hb2⟩
  have HB := Lib.hid (HM.out.1.trans (hb2.mono HM.out.1.size))
  clear HM d0 d1 d2 d3 d4 k1 k2 hb2
  cases hv : insV (k : Int) f ⟨op, fa, fb, fc, fn⟩ with
  | true =>
    have HN := Lib.hid (show (!insV (k : Int) f ⟨op, fa, fb, fc, fn⟩) = false by rw [hv]; rfl)
    clear hv
    go_wp2
    go_ret
    exact ⟨ret_bool HN.out.symm, HB.out⟩
  | false =>
    have HN := Lib.hid (show (!insV (k : Int) f ⟨op, fa, fb, fc, fn⟩) = true by rw [hv]; rfl)
    clear hv
    go_wp2
    go_ret
    exact ⟨ret_bool HN.out.symm, HB.out⟩

end Go.Proofs.YtdkafajmhgfkoaaDoor
