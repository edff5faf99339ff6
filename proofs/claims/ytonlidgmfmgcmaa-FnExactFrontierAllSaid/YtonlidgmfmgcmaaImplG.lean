
/-
  The library's slices.IndexFunc and ContainsFunc over ints and over blocks; the program's test whether a code is a graph.
-/
import Derived.Test.YtonlidgmfmgcmaaGr
namespace Go.Proofs.Ytonlidgmfmgcmaa
open Go.RowKit

theorem within_any (x lo hi : Int) (w : World) : Calls Try.prog 49 #[.int .i64 x, .int .i64 lo, .int .i64 hi] w fun e w' => e = .returned (.bool (decide (lo ≤ x) && decide (x ≤ hi))) ∧ w = w' := by
  by_cases h1 : lo ≤ x
  · have d1 : decide (lo ≤ x) = true := decide_eq_true h1
    by_cases h2 : x ≤ hi
    · have d2 : decide (x ≤ hi) = true := decide_eq_true h2
      go_enter Try.func49, Try.ntmps49
      go_wp2
      go_ret
      exact ⟨by rw [d1, d2]; rfl, rfl⟩
    · have d2 : decide (x ≤ hi) = false := decide_eq_false h2
      go_enter Try.func49, Try.ntmps49
      go_wp2
      go_ret
      exact ⟨rfl, rfl⟩
  · have d1 : decide (lo ≤ x) = false := decide_eq_false h1
    go_enter Try.func49, Try.ntmps49
    go_wp2
    go_ret
    exact ⟨rfl, rfl⟩
theorem within_same (x lo hi : Int) (w : World) : Calls Try.prog 49 #[.int .i64 x, .int .i64 lo, .int .i64 hi] w fun e w' => e = .returned (.bool (decide (lo ≤ x) && decide (x ≤ hi))) ∧ w' = w :=
  (within_any x lo hi w).mono fun _ _ ⟨he, hw⟩ => ⟨he, hw.symm⟩

/-- The index of the first element of which p holds, or -1. -/
def idxP {α : Type} (p : α → Bool) : List α → Int
  | [] => -1
  | r :: rs => if p r then 0 else if idxP p rs < 0 then -1 else idxP p rs + 1
theorem idxP_none {α : Type} {p : α → Bool} : ∀ {rs : List α}, (∀ r ∈ rs, p r = false) → idxP p rs = -1
  | [], _ => rfl
  | r :: rs, h => by
    have h1 := h r (by simp)
    have h2 := idxP_none (rs := rs) (fun x hx => h x (by simp [hx]))
    simp [idxP, h1, h2]
theorem idxP_some {α : Type} {p : α → Bool} : ∀ {rs : List α} {k : Nat} {r : α}, (∀ (j : Nat) x, j < k → rs[j]? = some x → p x = false) → rs[k]? = some r → p r = true → idxP p rs = k
  | [], _, _, _, h, _ => by simp at h
  | r :: rs, 0, r', _, h, hp => by simp at h; subst h; simp [idxP, hp]
  | r :: rs, k + 1, r', h, hr, hp => by
    have h1 := h 0 r (by omega) (by simp)
    have h2 := idxP_some (rs := rs) (k := k) (r := r') (fun j x hj hx => h (j + 1) x (by omega) (by simpa using hx)) (by simpa using hr) hp
    simp only [idxP, h1, h2, Bool.false_eq_true, if_false]
    rw [if_neg (by omega)]
    omega
theorem idxP_nonneg {α : Type} {p : α → Bool} : ∀ rs : List α, decide (0 ≤ idxP p rs) = rs.any p
  | [] => by simp [idxP]
  | r :: rs => by
    have ih := idxP_nonneg (p := p) rs
    by_cases hp : p r = true
    · simp [idxP, hp]
    · have hp' : p r = false := by simpa using hp
      simp only [idxP, hp', Bool.false_eq_true, if_false, List.any_cons, Bool.false_or, ← ih]
      by_cases h : idxP p rs < 0
      · simp [h]
      · simp [h]; omega

/-- The function value answers p of each int, and changes nothing that was there. -/
structure IntFn (w : World) (f : Nat) (caps : Array Value) (xs : List Int) (p : Int → Bool) : Prop where
  enter : ∀ v W, (callFunc f (#[v] ++ caps)).run Try.prog W = .ok (.enter f (#[v] ++ caps)) W
  calls : ∀ x ∈ xs, ∀ W, Below w.heap.size w W → Calls Try.prog f (#[.int .i64 x] ++ caps) W fun e w' => e = .returned (.bool (p x)) ∧ Below W.heap.size W w'
/-- The same of blocks. -/
structure BlockFn (w : World) (f : Nat) (caps : Array Value) (xs : List BlockD) (p : BlockD → Bool) : Prop where
  enter : ∀ v W, (callFunc f (#[v] ++ caps)).run Try.prog W = .ok (.enter f (#[v] ++ caps)) W
  calls : ∀ x ∈ xs, ∀ cs W, Below w.heap.size w W → BlockR W cs x → Calls Try.prog f (#[.agg (List.toArray cs)] ++ caps) W fun e w' => e = .returned (.bool (p x)) ∧ Below W.heap.size W w'

set_option maxHeartbeats 400000 in
theorem indexInts_any (f : Nat) (caps : Array Value) (p : Int → Bool) (a : Option Addr) (len cap : Nat) (xs : List Int) (w : World) (hin : IntsRd w a len xs) (hf : IntFn w f caps xs p) (hs : len ≤ 1099511627776) :
    Calls Try.prog 60 #[.slice a len cap, .func (.func f) #[] caps] w fun e w' => e = .returned (.int .i64 (idxP p xs)) ∧ Below w.heap.size w w' := by
  have hen := hf.enter
  have HL := Lib.hid hin.length
  go_enter Try.func60, Try.ntmps60
  go_wp2
  go_loopw [8] (fun i wr => ∃ k : Nat, k ≤ len ∧ i = .int .i64 k ∧ Below w.heap.size w wr ∧ Hid (∀ (j : Nat) x, j < k → xs[j]? = some x → p x = false)) (fun i _ => len - (intOf i).toNat)
  case atStart => exact ⟨0, Nat.zero_le _, rfl, Below.refl _ _, Lib.hid (fun j x hj => by omega)⟩
  case round =>
    obtain ⟨k, hk, rfl, hbr, hno⟩ := hrel
    by_cases hlt : k < len
    · obtain ⟨b, off, x, rfl, hx, hc⟩ := (hin.later hbr).place hlt
      have hcall := hf.calls _ (List.mem_of_getElem? hx) wr hbr
      have HX := Lib.hid hx
      have HC := Lib.hid hcall
      clear hx hcall
      by_cases hp : p x = true
      · have hidx := idxP_some hno.out HX.out hp
        have HI := Lib.hid hidx
        have HP := Lib.hid hp
        clear hidx hp
        go_wp2_with fail
        refine HC.out.mono ?_
        rw [HP.out]
        rintro e w1 ⟨rfl, hb1⟩
        go_wp2
        go_ret
        exact ⟨ret_int HI.out.symm, hbr.trans (hb1.mono hbr.size)⟩
      · have hp' : p x = false := by simpa using hp
        have HP := Lib.hid hp'
        clear hp hp'
        go_wp2_with fail
        refine HC.out.mono ?_
        rw [HP.out]
        rintro e w1 ⟨rfl, hb1⟩
        go_wp2
        go_roundw
        case rel =>
          refine ⟨k + 1, by omega, by go_num, hbr.trans (hb1.mono hbr.size), Lib.hid fun j x hj hjx => ?_⟩
          by_cases hjk : j = k
          · subst hjk
            rw [HX.out] at hjx
            cases hjx
            exact HP.out
          · exact hno.out j x (by omega) hjx
        case measure => simp [intOf]; omega
    · obtain rfl : k = len := by omega
      go_wp2
      go_ret
      refine ⟨ret_int ?_, hbr⟩
      rw [idxP_none]
      intro r hr
      obtain ⟨j, hj⟩ := List.getElem?_of_mem hr
      exact hno.out j r (by have := (List.getElem?_eq_some_iff.1 hj).1; have := HL.out; omega) hj

theorem containsInts_any (f : Nat) (caps : Array Value) (p : Int → Bool) (a : Option Addr) (len cap : Nat) (xs : List Int) (w : World) (hin : IntsRd w a len xs) (hf : IntFn w f caps xs p) (hs : len ≤ 1099511627776) :
    Calls Try.prog 47 #[.slice a len cap, .func (.func f) #[] caps] w fun e w' => e = .returned (.bool (xs.any p)) ∧ Below w.heap.size w w' := by
  have HI := Lib.hid (idxP_nonneg (p := p) xs)
  go_enter Try.func47, Try.ntmps47
  go_wp2_with fail
  refine (indexInts_any f caps p a len cap xs w hin hf hs).mono ?_
  rintro e w1 ⟨rfl, hb1⟩
  go_wp2
  go_ret
  exact ⟨ret_bool HI.out, hb1⟩

set_option maxHeartbeats 800000 in
theorem indexBlocks_any (f : Nat) (caps : Array Value) (p : BlockD → Bool) (a : Option Addr) (len cap : Nat) (xs : List BlockD) (w : World) (hin : SliceRd 5 BlockR w a len xs) (hf : BlockFn w f caps xs p) (hs : len ≤ 1099511627776) :
    Calls Try.prog 59 #[.slice a len cap, .func (.func f) #[] caps] w fun e w' => e = .returned (.int .i64 (idxP p xs)) ∧ Below w.heap.size w w' := by
  have hen := hf.enter
  have HL := Lib.hid hin.length
  go_enter Try.func59, Try.ntmps59
  go_wp2
  go_loopw [8] (fun i wr => ∃ k : Nat, k ≤ len ∧ i = .int .i64 k ∧ Below w.heap.size w wr ∧ Hid (∀ (j : Nat) x, j < k → xs[j]? = some x → p x = false)) (fun i _ => len - (intOf i).toNat)
  case atStart => exact ⟨0, Nat.zero_le _, rfl, Below.refl _ _, Lib.hid (fun j x hj => by omega)⟩
  case round =>
    obtain ⟨k, hk, rfl, hbr, hno⟩ := hrel
    by_cases hlt : k < len
    · obtain ⟨b, off, phis, ins, jump, jon, nx, pa, pc, ia, ic, na, nc, rfl, hx, c0, c1, c2, c3, c4, hR⟩ := block_place (hin.later blockR_lasts hbr) hlt
      have hcall := hf.calls _ (List.mem_of_getElem? hx) _ wr hbr hR
      have HX := Lib.hid hx
      have HC := Lib.hid hcall
      clear hx hcall hR
      by_cases hp : p ⟨phis, ins, jump, jon, nx⟩ = true
      · have hidx := idxP_some hno.out HX.out hp
        have HI := Lib.hid hidx
        have HP := Lib.hid hp
        clear hidx hp
        go_wp2_with fail
        refine HC.out.mono ?_
        rw [HP.out]
        rintro e w1 ⟨rfl, hb1⟩
        go_wp2
        go_ret
        exact ⟨ret_int HI.out.symm, hbr.trans (hb1.mono hbr.size)⟩
      · have hp' : p ⟨phis, ins, jump, jon, nx⟩ = false := by simpa using hp
        have HP := Lib.hid hp'
        clear hp hp'
        go_wp2_with fail
        refine HC.out.mono ?_
        rw [HP.out]
        rintro e w1 ⟨rfl, hb1⟩
        go_wp2
        go_roundw
        case rel =>
          refine ⟨k + 1, by omega, by go_num, hbr.trans (hb1.mono hbr.size), Lib.hid fun j x hj hjx => ?_⟩
          by_cases hjk : j = k
          · subst hjk
            rw [HX.out] at hjx
            cases hjx
            exact HP.out
          · exact hno.out j x (by omega) hjx
        case measure => simp [intOf]; omega
    · obtain rfl : k = len := by omega
      go_wp2
      go_ret
      refine ⟨ret_int ?_, hbr⟩
      rw [idxP_none]
      intro r hr
      obtain ⟨j, hj⟩ := List.getElem?_of_mem hr
      exact hno.out j r (by have := (List.getElem?_eq_some_iff.1 hj).1; have := HL.out; omega) hj

theorem containsBlocks_any (f : Nat) (caps : Array Value) (p : BlockD → Bool) (a : Option Addr) (len cap : Nat) (xs : List BlockD) (w : World) (hin : SliceRd 5 BlockR w a len xs) (hf : BlockFn w f caps xs p) (hs : len ≤ 1099511627776) :
    Calls Try.prog 45 #[.slice a len cap, .func (.func f) #[] caps] w fun e w' => e = .returned (.bool (xs.any p)) ∧ Below w.heap.size w w' := by
  have HI := Lib.hid (idxP_nonneg (p := p) xs)
  go_enter Try.func45, Try.ntmps45
  go_wp2_with fail
  refine (indexBlocks_any f caps p a len cap xs w hin hf hs).mono ?_
  rintro e w1 ⟨rfl, hb1⟩
  go_wp2
  go_ret
  exact ⟨ret_bool HI.out, hb1⟩

/-! ### is it a graph? -/
theorem graphOk11_any (x : Int) (cb n : Nat) (ba : Option Addr) (bc : Nat) (w : World) (hn : n ≤ 1048576) (hc : w.cell? ⟨cb, 2, none⟩ = some (.slice ba n bc)) :
    Calls Try.prog 48 #[.int .i64 x, .pointer (some ⟨cb, 0, none⟩)] w fun e w' => e = .returned (.bool (!okN n x)) ∧ Below w.heap.size w w' := by
  go_enter Try.func48, Try.ntmps48
  go_wp2_with fail
  refine (within_any x 0 ((n : Int) - 1) w).mono ?_
  rintro e w1 ⟨rfl, rfl⟩
  go_wp2
  go_ret
  exact ⟨ret_bool (by rw [okN, Bool.not_and]), Below.refl _ _⟩

set_option maxRecDepth 100000 in
theorem graphOk1_any (cs : List Value) (x : BlockD) (cb n : Nat) (ba : Option Addr) (bc : Nat) (w : World) (hn : n ≤ 1048576) (hR : BlockR w cs x) (hx : x.nx.length ≤ 1048576) (hc : w.cell? ⟨cb, 2, none⟩ = some (.slice ba n bc)) :
    Calls Try.prog 46 #[.agg cs.toArray, .pointer (some ⟨cb, 0, none⟩)] w fun e w' => e = .returned (.bool (x.nx.any (fun y => !okN n y))) ∧ Below w.heap.size w w' := by
  obtain ⟨pa, pc, ia, ic, na, nc, rfl, _, _, _, hrd⟩ := hR
  have hmf : ∀ (fn : Fn) (first cap : Array Value) (w : World), (Instr.makeFunc fn first cap).run Try.prog w = .ok (.func fn first cap) w := fun _ _ _ _ => rfl
  have hb0 : Below w.heap.size w (w.alloc (.cells #[.slice pa x.phis.length pc, .slice ia x.ins.length ic, .int .i64 x.jump, .int .i64 x.jon, .slice na x.nx.length nc] 56)) := (Below.refl _ _).alloc (Nat.le_refl _) _
  go_enter Try.func46, Try.ntmps46
  go_wp2_with fail
  refine (containsInts_any 48 #[.pointer (some ⟨cb, 0, none⟩)] (fun y => !okN n y) na x.nx.length nc x.nx _ (hrd.later hb0) ⟨fun v W => ?_, fun y hy W hW => ?_⟩ (by omega)).mono ?_
  · rfl
  · exact graphOk11_any y cb n ba bc W hn (cell_later hW (cell_later hb0 hc))
  · rintro e w1 ⟨rfl, hb1⟩
    go_wp2
    go_ret
    exact ⟨rfl, hb0.trans (hb1.mono hb0.size)⟩

theorem any_nx (g : List (List Int)) (bs : List BlockD) (hg : g = bs.map (·.nx)) : bs.any (fun x => x.nx.any (fun y => !okN g.length y)) = !(g.all (fun l => l.all (okN g.length))) := by
  generalize g.length = n
  subst hg
  induction bs with
  | nil => rfl
  | cons b bs ih =>
    rw [List.any_cons, ih, List.map_cons, List.all_cons, Bool.not_and]
    congr 1
    induction b.nx with
    | nil => rfl
    | cons x xs ih2 => rw [List.any_cons, ih2, List.all_cons, Bool.not_and]

set_option maxRecDepth 100000 in
set_option maxHeartbeats 400000 in
theorem graphOk_any (p r : Int) (ba : Option Addr) (bc : Nat) (g : List (List Int)) (w : World) (hg : Gr w ba g) :
    Calls Try.prog 30 #[.agg #[.int .i64 p, .int .i64 r, .slice ba g.length bc]] w fun e w' => e = .returned (.bool (fits g)) ∧ Below w.heap.size w w' := by
  have hmf : ∀ (fn : Fn) (first cap : Array Value) (w : World), (Instr.makeFunc fn first cap).run Try.prog w = .ok (.func fn first cap) w := fun _ _ _ _ => rfl
  have hb0 : Below w.heap.size w (w.alloc (.cells #[.int .i64 p, .int .i64 r, .slice ba g.length bc] 30)) := (Below.refl _ _).alloc (Nat.le_refl _) _
  have hlen := hg.len
  by_cases hpos : 0 < g.length
  · have hpi : (0 : Int) < (g.length : Int) := by omega
    have hpd : decide ((0 : Int) < (g.length : Int)) = true := decide_eq_true hpi
    have hgg := hg
    obtain ⟨_, bs, hrd, hgb⟩ := hg
    have hrow : ∀ x ∈ bs, x.nx.length ≤ 1048576 := fun x hx => by
      obtain ⟨i, hi⟩ := List.mem_iff_getElem?.1 hx
      exact hgg.row (i := i) (by rw [hgb, List.getElem?_map, hi]; rfl)
    have HRW := Lib.hid hrow
    clear hrow hgg
    have hcl : (w.alloc (.cells #[.int .i64 p, .int .i64 r, .slice ba g.length bc] 30)).cell? ⟨w.heap.size, 2, none⟩ = some (.slice ba g.length bc) := cell_of_row _ _ 2 _ _ _ (heap_alloc_new w _)
    have hbl : bs.length = g.length := by rw [hgb]; simp
    have HA := Lib.hid (And.intro hgb hcl)
    clear hgb hcl
    go_enter Try.func30, Try.ntmps30
    go_wp2_with fail
    rw [hbl] at hrd
    refine (containsBlocks_any 46 #[.pointer (some ⟨w.heap.size, 0, none⟩)] (fun x => x.nx.any (fun y => !okN g.length y)) ba g.length bc bs _ (hrd.later blockR_lasts hb0) ⟨fun v W => rfl, fun x hx cs W hW hR => ?_⟩ (by omega)).mono ?_
    · refine graphOk1_any cs x w.heap.size g.length ba bc W hlen hR ?_ (cell_later hW HA.out.2)
      exact HRW.out x hx
    · rintro e w1 ⟨rfl, hb1⟩
      go_wp2
      go_ret
      refine ⟨ret_bool ?_, hb0.trans (hb1.mono hb0.size)⟩
      rw [any_nx g bs HA.out.1, Bool.not_not, fits]
      simp [hpos]
  · have hpd : decide ((0 : Int) < (g.length : Int)) = false := decide_eq_false (by omega)
    have hz : fits g = false := by simp [fits, hpos]
    have HZ := Lib.hid hz
    clear hz
    go_enter Try.func30, Try.ntmps30
    go_wp2
    go_ret
    exact ⟨ret_bool HZ.out.symm, hb0⟩

end Go.Proofs.Ytonlidgmfmgcmaa
