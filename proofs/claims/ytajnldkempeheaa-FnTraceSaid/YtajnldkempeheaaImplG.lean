/-
  Graphs as lists of lists of numbers: which blocks are reached without going over one; the visit in depth. No program in sight.
-/
import Derived.Test.YtajnldkempeheaaCore
import Derived.Test.YtajnldkempeheaaUnitData
import Derived.StillTailTactics
import Derived.Test.YtajnldkempeheaaBase

namespace Go.Proofs.Ytajnldkempeheaa
open Go.RowKit

/-- Is a number one of n? -/
def okN (n : Nat) (x : Int) : Bool := decide (0 ≤ x) && decide (x ≤ (n : Int) - 1)
theorem okN_iff {n : Nat} {x : Int} : okN n x = true ↔ 0 ≤ x ∧ x < n := by simp [okN]; omega
/-! ### the visit in depth -/
end Go.Proofs.Ytajnldkempeheaa

/-
  A code read as a graph; the reference's test whether it is one.
-/

namespace Go.Proofs.Ytajnldkempeheaa
open Go.RowKit

/-- The blocks behind a slice lead to one another as g says. -/
structure Gr (w : World) (ba : Option Addr) (g : List (List Int)) : Prop where
  small : g.length + (g.map List.length).sum ≤ 1048576
  rd : ∃ bs : List BlockD, SliceRd 5 BlockR w ba bs.length bs ∧ g = bs.map (·.nx)
theorem Gr.later {w w' : World} {ba : Option Addr} {g : List (List Int)} (h : Gr w ba g) (hb : Below w.heap.size w w') : Gr w' ba g := by
  obtain ⟨h1, bs, h2, h3⟩ := h
  exact ⟨h1, bs, h2.later blockR_lasts hb, h3⟩
theorem Gr.place2 {w : World} {ba : Option Addr} {g : List (List Int)} (h : Gr w ba g) {i : Nat} (hi : i < g.length) :
    ∃ b off l na nc, ba = some ⟨b, off, none⟩ ∧ g[i]? = some l ∧ w.cell? ⟨b, off + i * 5 + 4, none⟩ = some (.slice na l.length nc) ∧ IntsRd w na l.length l ∧ (na = none → nc = 0) := by
  obtain ⟨_, bs, h2, rfl⟩ := h
  obtain ⟨b, off, phis, ins, jump, jon, nx, pa, pc, ia, ic, na, nc, rfl, hx, c0, c1, c2, c3, c4, hr⟩ := block_place h2 (i := i) (by simpa using hi)
  obtain ⟨_, _, _, _, _, _, hcs, _, _, ⟨_, hnil⟩, hrd⟩ := hr
  simp only [List.cons.injEq, Value.slice.injEq, and_true, true_and] at hcs
  obtain ⟨_, _, rfl, rfl⟩ := hcs
  exact ⟨b, off, nx, _, _, rfl, by rw [List.getElem?_map, hx]; rfl, c4, hrd, hnil⟩
theorem Gr.place {w : World} {ba : Option Addr} {g : List (List Int)} (h : Gr w ba g) {i : Nat} (hi : i < g.length) :
    ∃ b off l na nc, ba = some ⟨b, off, none⟩ ∧ g[i]? = some l ∧ w.cell? ⟨b, off + i * 5 + 4, none⟩ = some (.slice na l.length nc) ∧ IntsRd w na l.length l := by
  obtain ⟨b, off, l, na, nc, h1, h2, h3, h4, _⟩ := h.place2 hi
  exact ⟨b, off, l, na, nc, h1, h2, h3, h4⟩
theorem Gr.len {w : World} {ba : Option Addr} {g : List (List Int)} (h : Gr w ba g) : g.length ≤ 1048576 := by have := h.small; omega
theorem Gr.row {w : World} {ba : Option Addr} {g : List (List Int)} (h : Gr w ba g) {i : Nat} {l : List Int} (hl : g[i]? = some l) : l.length ≤ 1048576 := by
  have h1 := h.small
  have h2 : l.length ∈ g.map List.length := List.mem_map_of_mem (List.mem_of_getElem? hl)
  have h3 := sumOf_mem (sz := List.length) (List.mem_of_getElem? hl)
  unfold sumOf at h3
  omega
def nxs (x : CodeD) : List (List Int) := x.blocks.map (·.nx)
theorem nxs_sum : ∀ bs : List BlockD, ((bs.map (·.nx)).map List.length).sum ≤ sumOf szBlockD bs
  | [] => Nat.le_refl _
  | b :: bs => by
    have := nxs_sum bs
    unfold sumOf at this ⊢
    simp only [List.map_cons, List.sum_cons, szBlockD] at this ⊢
    omega
theorem gr_of_code {w : World} {cs : List Value} {x : CodeD} (h : CodeR w cs x) (hs : szCodeD x ≤ 1048576) : ∃ ba bc, cs = [.int .i64 x.params, .int .i64 x.regs, .slice ba (nxs x).length bc] ∧ Gr w ba (nxs x) := by
  obtain ⟨ba, bc, rfl, _, hr⟩ := h
  have hl : (nxs x).length = x.blocks.length := by simp [nxs]
  refine ⟨ba, bc, by rw [hl], ⟨?_, x.blocks, hr, rfl⟩⟩
  have := nxs_sum x.blocks
  unfold szCodeD szS at hs
  rw [hl]
  unfold nxs
  omega

theorem l1In_any (x lo hi : Int) (w : World) : Calls Try.prog 18 #[.int .i64 x, .int .i64 lo, .int .i64 hi] w fun e w' => e = .returned (.bool (decide (lo ≤ x) && decide (x ≤ hi))) ∧ w = w' := by
  by_cases h1 : lo ≤ x
  · have d1 : decide (lo ≤ x) = true := decide_eq_true h1
    by_cases h2 : x ≤ hi
    · have d2 : decide (x ≤ hi) = true := decide_eq_true h2
      go_enter Try.func18, Try.ntmps18
      go_wp2
      go_ret
      exact ⟨by rw [d1, d2]; rfl, rfl⟩
    · have d2 : decide (x ≤ hi) = false := decide_eq_false h2
      go_enter Try.func18, Try.ntmps18
      go_wp2
      go_ret
      exact ⟨rfl, rfl⟩
  · have d1 : decide (lo ≤ x) = false := decide_eq_false h1
    go_enter Try.func18, Try.ntmps18
    go_wp2
    go_ret
    exact ⟨rfl, rfl⟩
theorem l1In_same (x lo hi : Int) (w : World) : Calls Try.prog 18 #[.int .i64 x, .int .i64 lo, .int .i64 hi] w fun e w' => e = .returned (.bool (decide (lo ≤ x) && decide (x ≤ hi))) ∧ w' = w :=
  (l1In_any x lo hi w).mono fun _ _ ⟨he, hw⟩ => ⟨he, hw.symm⟩

end Go.Proofs.Ytajnldkempeheaa

/-
  The reference's visit in depth computes 'dfs'.
-/
namespace Go.Proofs.Ytajnldkempeheaa
open Go.RowKit

end Go.Proofs.Ytajnldkempeheaa

/-
  Rows of truth values, and slices of such rows: how they read, how they are owned and filled.
-/
namespace Go.Proofs.Ytajnldkempeheaa
open Go.RowKit

end Go.Proofs.Ytajnldkempeheaa

/-
  The reference's table of what dominates what.
-/
namespace Go.Proofs.Ytajnldkempeheaa
open Go.RowKit

theorem own_type {w : World} {base size n : Nat} {e : TypeId} {v : Value} {xs : List Value} (h : w.ownsRow base e size v n xs) {k : Nat} (hk : v.ownBlock = some k) : ∃ cur, w.heap[k]? = some (.cells cur e (0, 0)) := by
  rcases h.2 with ⟨rfl, _⟩ | ⟨g, cap, cur, rfl, _, hg, _⟩
  · simp [Value.ownBlock] at hk
  · simp only [Value.ownBlock, Option.some.injEq] at hk
    subst hk
    exact ⟨cur, hg⟩
section
variable {w : World} {ops : Array Oper} {rest : List Oper} {o : Oper} {a : Act} {Q : Exit → Act → World → Prop}
end

theorem two_blocks (w : World) (P Q : Obj) : ((w.alloc P).alloc Q).heap[w.heap.size]? = some P ∧ ((w.alloc P).alloc Q).heap[w.heap.size + 1]? = some Q ∧ ((w.alloc P).alloc Q).heap.size = w.heap.size + 2 ∧ Below w.heap.size w ((w.alloc P).alloc Q) :=
  ⟨heap_alloc2_old w P Q, heap_alloc2_new w P Q, by simp, ((Below.refl _ _).alloc (Nat.le_refl _) _).alloc (by simp) _⟩
end Go.Proofs.Ytajnldkempeheaa

/-
  The library's slices.IndexFunc and ContainsFunc over ints and over blocks; the program's test whether a code is a graph.
-/
namespace Go.Proofs.Ytajnldkempeheaa
open Go.RowKit

theorem within_any (x lo hi : Int) (w : World) : Calls Try.prog 29 #[.int .i64 x, .int .i64 lo, .int .i64 hi] w fun e w' => e = .returned (.bool (decide (lo ≤ x) && decide (x ≤ hi))) ∧ w = w' := by
  by_cases h1 : lo ≤ x
  · have d1 : decide (lo ≤ x) = true := decide_eq_true h1
    by_cases h2 : x ≤ hi
    · have d2 : decide (x ≤ hi) = true := decide_eq_true h2
      go_enter Try.func29, Try.ntmps29
      go_wp2
      go_ret
      exact ⟨by rw [d1, d2]; rfl, rfl⟩
    · have d2 : decide (x ≤ hi) = false := decide_eq_false h2
      go_enter Try.func29, Try.ntmps29
      go_wp2
      go_ret
      exact ⟨rfl, rfl⟩
  · have d1 : decide (lo ≤ x) = false := decide_eq_false h1
    go_enter Try.func29, Try.ntmps29
    go_wp2
    go_ret
    exact ⟨rfl, rfl⟩
theorem within_same (x lo hi : Int) (w : World) : Calls Try.prog 29 #[.int .i64 x, .int .i64 lo, .int .i64 hi] w fun e w' => e = .returned (.bool (decide (lo ≤ x) && decide (x ≤ hi))) ∧ w' = w :=
  (within_any x lo hi w).mono fun _ _ ⟨he, hw⟩ => ⟨he, hw.symm⟩

/-- The index of the first element of which p holds, or -1. -/
def idxP {α : Type} (p : α → Bool) : List α → Int
  | [] => -1
  | r :: rs => if p r then 0 else if idxP p rs < 0 then -1 else idxP p rs + 1
theorem idxP_none {α : Type} {p : α → Bool} : ∀ {rs : List α}, (∀ r ∈ rs, p r = false) → idxP p rs = -1
  | [], _ => rfl
  | r :: rs, h => by
    have h1 := h r (by simp)
    have h2 := idxP_none (rs := rs) (fun x hx => h x (by simp [hx]))
    simp [idxP, h1, h2]
theorem idxP_some {α : Type} {p : α → Bool} : ∀ {rs : List α} {k : Nat} {r : α}, (∀ (j : Nat) x, j < k → rs[j]? = some x → p x = false) → rs[k]? = some r → p r = true → idxP p rs = k
  | [], _, _, _, h, _ => by simp at h
  | r :: rs, 0, r', _, h, hp => by simp at h; subst h; simp [idxP, hp]
  | r :: rs, k + 1, r', h, hr, hp => by
    have h1 := h 0 r (by omega) (by simp)
    have h2 := idxP_some (rs := rs) (k := k) (r := r') (fun j x hj hx => h (j + 1) x (by omega) (by simpa using hx)) (by simpa using hr) hp
    simp only [idxP, h1, h2, Bool.false_eq_true, if_false]
    rw [if_neg (by omega)]
    omega
theorem idxP_nonneg {α : Type} {p : α → Bool} : ∀ rs : List α, decide (0 ≤ idxP p rs) = rs.any p
  | [] => by simp [idxP]
  | r :: rs => by
    have ih := idxP_nonneg (p := p) rs
    by_cases hp : p r = true
    · simp [idxP, hp]
    · have hp' : p r = false := by simpa using hp
      simp only [idxP, hp', Bool.false_eq_true, if_false, List.any_cons, Bool.false_or, ← ih]
      by_cases h : idxP p rs < 0
      · simp [h]
      · simp [h]; omega

/-- The function value answers p of each int, and changes nothing that was there. -/
structure IntFn (w : World) (f : Nat) (caps : Array Value) (xs : List Int) (p : Int → Bool) : Prop where
  enter : ∀ v W, (callFunc f (#[v] ++ caps)).run Try.prog W = .ok (.enter f (#[v] ++ caps)) W
  calls : ∀ x ∈ xs, ∀ W, Below w.heap.size w W → Calls Try.prog f (#[.int .i64 x] ++ caps) W fun e w' => e = .returned (.bool (p x)) ∧ Below W.heap.size W w'
set_option maxHeartbeats 400000 in
theorem indexInts_any (f : Nat) (caps : Array Value) (p : Int → Bool) (a : Option Addr) (len cap : Nat) (xs : List Int) (w : World) (hin : IntsRd w a len xs) (hf : IntFn w f caps xs p) (hs : len ≤ 1099511627776) :
    Calls Try.prog 67 #[.slice a len cap, .func (.func f) #[] caps] w fun e w' => e = .returned (.int .i64 (idxP p xs)) ∧ Below w.heap.size w w' := by
  have hen := hf.enter
  have HL := Lib.hid hin.length
  go_enter Try.func67, Try.ntmps67
  go_wp2
  go_loopw [8] (fun i wr => ∃ k : Nat, k ≤ len ∧ i = .int .i64 k ∧ Below w.heap.size w wr ∧ Hid (∀ (j : Nat) x, j < k → xs[j]? = some x → p x = false)) (fun i _ => len - (intOf i).toNat)
  case atStart => exact ⟨0, Nat.zero_le _, rfl, Below.refl _ _, Lib.hid (fun j x hj => by omega)⟩
  case round =>
    obtain ⟨k, hk, rfl, hbr, hno⟩ := hrel
    by_cases hlt : k < len
    · obtain ⟨b, off, x, rfl, hx, hc⟩ := (hin.later hbr).place hlt
      have hcall := hf.calls _ (List.mem_of_getElem? hx) wr hbr
      have HX := Lib.hid hx
      have HC := Lib.hid hcall
      clear hx hcall
      by_cases hp : p x = true
      · have hidx := idxP_some hno.out HX.out hp
        have HI := Lib.hid hidx
        have HP := Lib.hid hp
        clear hidx hp
        go_wp2_with fail
        refine HC.out.mono ?_
        rw [HP.out]
        rintro e w1 ⟨rfl, hb1⟩
        go_wp2
        go_ret
        exact ⟨ret_int HI.out.symm, hbr.trans (hb1.mono hbr.size)⟩
      · have hp' : p x = false := by simpa using hp
        have HP := Lib.hid hp'
        clear hp hp'
        go_wp2_with fail
        refine HC.out.mono ?_
        rw [HP.out]
        rintro e w1 ⟨rfl, hb1⟩
        go_wp2
        go_roundw
        case rel =>
          refine ⟨k + 1, by omega, by go_num, hbr.trans (hb1.mono hbr.size), Lib.hid fun j x hj hjx => ?_⟩
          by_cases hjk : j = k
          · subst hjk
            rw [HX.out] at hjx
            cases hjx
            exact HP.out
          · exact hno.out j x (by omega) hjx
        case measure => simp [intOf]; omega
    · obtain rfl : k = len := by omega
      go_wp2
      go_ret
      refine ⟨ret_int ?_, hbr⟩
      rw [idxP_none]
      intro r hr
      obtain ⟨j, hj⟩ := List.getElem?_of_mem hr
      exact hno.out j r (by have := (List.getElem?_eq_some_iff.1 hj).1; have := HL.out; omega) hj

theorem containsInts_any (f : Nat) (caps : Array Value) (p : Int → Bool) (a : Option Addr) (len cap : Nat) (xs : List Int) (w : World) (hin : IntsRd w a len xs) (hf : IntFn w f caps xs p) (hs : len ≤ 1099511627776) :
    Calls Try.prog 42 #[.slice a len cap, .func (.func f) #[] caps] w fun e w' => e = .returned (.bool (xs.any p)) ∧ Below w.heap.size w w' := by
  have HI := Lib.hid (idxP_nonneg (p := p) xs)
  go_enter Try.func42, Try.ntmps42
  go_wp2_with fail
  refine (indexInts_any f caps p a len cap xs w hin hf hs).mono ?_
  rintro e w1 ⟨rfl, hb1⟩
  go_wp2
  go_ret
  exact ⟨ret_bool HI.out, hb1⟩

/-! ### is it a graph? -/
end Go.Proofs.Ytajnldkempeheaa
