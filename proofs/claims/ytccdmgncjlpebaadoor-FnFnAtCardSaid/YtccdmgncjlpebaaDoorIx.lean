/-
  slices.IndexFunc and slices.ContainsFunc over statements, texts and functions, at any function value that tests an element. (printed by mkidx.py)
-/
import Derived.Test.YtccdmgncjlpebaaDoorVs
import Derived.Deep.LoopGhost

namespace Go.Proofs.YtccdmgncjlpebaaDoor
open Go.RowKit
set_option linter.unusedVariables false

def idxR {α : Type} (p : α → Bool) : Nat → List α → Int
  | _, [] => -1
  | k, x :: xs => if p x then (k : Int) else idxR p (k + 1) xs
theorem idxR_at {α : Type} {p : α → Bool} {x : α} {zs : List α} (h : p x = true) : ∀ (ys : List α) (k : Nat), (∀ y ∈ ys, p y = false) → idxR p k (ys ++ x :: zs) = ((k + ys.length : Nat) : Int)
  | [], k, _ => by simp [idxR, h]
  | y :: ys, k, hy => by
    rw [List.cons_append, idxR, hy y List.mem_cons_self, if_neg (by simp), idxR_at h ys (k + 1) (fun z hz => hy z (List.mem_cons_of_mem _ hz)), List.length_cons]
    omega
theorem idxR_none {α : Type} {p : α → Bool} : ∀ (ys : List α) (k : Nat), (∀ y ∈ ys, p y = false) → idxR p k ys = -1
  | [], _, _ => rfl
  | y :: ys, k, hy => by rw [idxR, hy y List.mem_cons_self, if_neg (by simp), idxR_none ys (k + 1) (fun z hz => hy z (List.mem_cons_of_mem _ hz))]
theorem idxR_hit {α : Type} {p : α → Bool} {xs : List α} {j : Nat} {x : α} (hx : xs[j]? = some x) (h : p x = true) (hn : (xs.take j).any p = false) : idxR p 0 xs = (j : Int) := by
  obtain ⟨hj, hxj⟩ := List.getElem?_eq_some_iff.1 hx
  have hs : xs = xs.take j ++ x :: xs.drop (j + 1) := by rw [← hxj, ← List.drop_eq_getElem_cons hj, List.take_append_drop]
  rw [hs, idxR_at h _ 0 (fun y hy => by simpa using List.any_eq_false.1 hn y hy)]
  simp
  omega
theorem idxR_miss {α : Type} {p : α → Bool} {xs : List α} (hn : xs.any p = false) : idxR p 0 xs = -1 := idxR_none xs 0 (fun y hy => by simpa using List.any_eq_false.1 hn y hy)
theorem idxR_ge {α : Type} {p : α → Bool} : ∀ (xs : List α) (k : Nat), decide (0 ≤ idxR p k xs) = xs.any p
  | [], _ => rfl
  | x :: xs, k => by
    rw [idxR, List.any_cons]
    cases h : p x with
    | true => rw [if_pos rfl]; simp
    | false => rw [if_neg (by simp), idxR_ge xs (k + 1)]; rfl
theorem any_take {α : Type} {p : α → Bool} {xs : List α} {k : Nat} {x : α} (h : xs[k]? = some x) : (xs.take (k + 1)).any p = ((xs.take k).any p || p x) := by
  rw [take_succ_of h, List.any_append]; simp


/-- The function value f tests each of these. -/
structure TestS (w0 : World) (f : Nat) (caps : Array Value) (D : Nat) (S : Nat → Prop) (p : StmtD → Bool) (xs : List StmtD) : Prop where
  enter : ∀ v W, (callFunc f (#[v] ++ caps)).run Tryd.prog W = .ok (.enter f (#[v] ++ caps)) W
  calls : ∀ x ∈ xs, ∀ cs W, Below w0.heap.size w0 W → StmtP D S W cs x → Calls Tryd.prog f (#[.agg cs.toArray] ++ caps) W fun e w' => e = .returned (.bool (p x)) ∧ Below W.heap.size W w'
set_option maxRecDepth 100000 in
set_option maxHeartbeats 2000000 in
theorem idxS_any (f : Nat) (caps : Array Value) (D : Nat) (S : Nat → Prop) (p : StmtD → Bool) (a : Option Addr) (c : Nat) (xs : List StmtD) (w : World) (hin : ListK 5 (StmtP D) S w a xs) (hn : xs.length ≤ 1000000) (hf : TestS w f caps D S p xs) :
    Calls Tryd.prog 46 #[.slice a xs.length c, .func (.func f) #[] caps] w fun e w' => e = .returned (.int .i64 (idxR p 0 xs)) ∧ Below w.heap.size w w' := by
  have hen := hf.enter
  have HF := Lib.hid (And.intro hf.calls hin)
  have hn2 : xs.length ≤ 9223372036854775807 := by omega
  have HN := Lib.hid hn
  obtain ⟨R, hR⟩ : ∃ R, R = idxR p 0 xs := ⟨_, rfl⟩
  rw [← hR]
  have HR := Lib.hid hR
  clear hf hin hn hR
  go_enter Tryd.func46, Tryd.ntmps46
  go_wp2_with fail
  go_loopg [8] xs.length (fun G i wr => ∃ (k : Nat), k + G = xs.length ∧ i = .int .i64 k ∧ Hid (Below w.heap.size w wr ∧ (xs.take k).any p = false))
  case atStart => exact ⟨0, by omega, rfl, Lib.hid ⟨Below.refl _ _, rfl⟩⟩
  case round =>
    obtain ⟨k, hk, rfl, HB⟩ := hrel
    by_cases hlt : k < xs.length
    · have hki : (k : Int) < (xs.length : Int) := by omega
      obtain ⟨b, off, x, aa, ac, ba, bc, ea, ec, rfl, hx, hS, c0, c1, c2, c3, c4⟩ := stmt_place (HF.out.2.below (stmtP_stays D) HB.out.1) hlt
      have HC := Lib.hid (HF.out.1 x (List.mem_of_getElem? hx) _ wr HB.out.1 hS)
      have HX := Lib.hid hx
      clear hx hS
      cases hv : p x with
      | false =>
        rw [hv] at HC
        have HT := Lib.hid (show (xs.take (k + 1)).any p = false by rw [any_take HX.out, HB.out.2, hv]; rfl)
        clear hv
        go_wp2_with fail
        refine HC.out.mono ?_
        rintro e w5 ⟨rfl, hb5⟩
        have HB5 := Lib.hid (HB.out.1.trans (hb5.mono HB.out.1.size))
        clear hb5 c0 c1 c2 c3 c4
        go_wp2
        go_roundg (gk - 1)
        case measure => omega
        case rel => exact ⟨k + 1, by omega, by go_num, Lib.hid ⟨HB5.out, HT.out⟩⟩
      | true =>
        rw [hv] at HC
        have HT := Lib.hid (show (k : Int) = R by rw [HR.out]; exact (idxR_hit HX.out hv HB.out.2).symm)
        clear hv
        go_wp2_with fail
        refine HC.out.mono ?_
        rintro e w5 ⟨rfl, hb5⟩
        have HB5 := Lib.hid (HB.out.1.trans (hb5.mono HB.out.1.size))
        clear hb5 c0 c1 c2 c3 c4
        go_wp2
        go_ret
        exact ⟨ret_int HT.out, HB5.out⟩
    · obtain rfl : k = xs.length := by omega
      have HT := Lib.hid (show (-1 : Int) = R by
        have h1 := HB.out.2
        rw [List.take_length] at h1
        rw [HR.out, idxR_miss h1])
      go_wp2
      go_ret
      exact ⟨ret_int HT.out, HB.out.1⟩
theorem hasS_any (f : Nat) (caps : Array Value) (D : Nat) (S : Nat → Prop) (p : StmtD → Bool) (a : Option Addr) (c : Nat) (xs : List StmtD) (w : World) (hin : ListK 5 (StmtP D) S w a xs) (hn : xs.length ≤ 1000000) (hf : TestS w f caps D S p xs) :
    Calls Tryd.prog 33 #[.slice a xs.length c, .func (.func f) #[] caps] w fun e w' => e = .returned (.bool (xs.any p)) ∧ Below w.heap.size w w' := by
  have HI := Lib.hid (idxS_any f caps D S p a c xs w hin hn hf)
  obtain ⟨i, hi⟩ : ∃ i, i = idxR p 0 xs := ⟨_, rfl⟩
  rw [← hi] at HI
  have HA := Lib.hid (show decide (0 ≤ i) = xs.any p by rw [hi]; exact idxR_ge xs 0)
  clear hi hin hn hf
  go_enter Tryd.func33, Tryd.ntmps33
  go_wp2_with fail
  refine HI.out.mono ?_
  rintro e w5 ⟨rfl, hb5⟩
  have HB5 := Lib.hid hb5
  clear hb5
  go_wp2
  go_ret
  exact ⟨ret_bool HA.out, HB5.out⟩

/-- The function value f tests each of these. -/
structure TestT (w0 : World) (f : Nat) (caps : Array Value) (S : Nat → Prop) (p : ByteArray → Bool) (xs : List ByteArray) : Prop where
  enter : ∀ v W, (callFunc f (#[v] ++ caps)).run Tryd.prog W = .ok (.enter f (#[v] ++ caps)) W
  calls : ∀ x ∈ xs, ∀ s W, Below w0.heap.size w0 W → (fun (_ : World) (s : ByteArray) (x : ByteArray) => s = x ∧ x.size ≤ maxLen) W s x → Calls Tryd.prog f (#[.string s] ++ caps) W fun e w' => e = .returned (.bool (p x)) ∧ Below W.heap.size W w'
set_option maxRecDepth 100000 in
set_option maxHeartbeats 2000000 in
theorem idxT_any (f : Nat) (caps : Array Value) (S : Nat → Prop) (p : ByteArray → Bool) (a : Option Addr) (c : Nat) (xs : List ByteArray) (w : World) (hin : ListK 1 strP S w a xs) (hn : xs.length ≤ 1000000) (hf : TestT w f caps S p xs) :
    Calls Tryd.prog 32 #[.slice a xs.length c, .func (.func f) #[] caps] w fun e w' => e = .returned (.int .i64 (idxR p 0 xs)) ∧ Below w.heap.size w w' := by
  have hen := hf.enter
  have HF := Lib.hid (And.intro hf.calls hin)
  have hn2 : xs.length ≤ 9223372036854775807 := by omega
  have HN := Lib.hid hn
  obtain ⟨R, hR⟩ : ∃ R, R = idxR p 0 xs := ⟨_, rfl⟩
  rw [← hR]
  have HR := Lib.hid hR
  clear hf hin hn hR
  go_enter Tryd.func32, Tryd.ntmps32
  go_wp2_with fail
  go_loopg [8] xs.length (fun G i wr => ∃ (k : Nat), k + G = xs.length ∧ i = .int .i64 k ∧ Hid (Below w.heap.size w wr ∧ (xs.take k).any p = false))
  case atStart => exact ⟨0, by omega, rfl, Lib.hid ⟨Below.refl _ _, rfl⟩⟩
  case round =>
    obtain ⟨k, hk, rfl, HB⟩ := hrel
    by_cases hlt : k < xs.length
    · have hki : (k : Int) < (xs.length : Int) := by omega
      obtain ⟨b, off, x, rfl, hx, hS, c0⟩ := str_place (HF.out.2.below strP_stays HB.out.1) hlt
      have HC := Lib.hid (HF.out.1 x (List.mem_of_getElem? hx) x wr HB.out.1 ⟨rfl, hS⟩)
      have HX := Lib.hid hx
      clear hx hS
      cases hv : p x with
      | false =>
        rw [hv] at HC
        have HT := Lib.hid (show (xs.take (k + 1)).any p = false by rw [any_take HX.out, HB.out.2, hv]; rfl)
        clear hv
        go_wp2_with fail
        refine HC.out.mono ?_
        rintro e w5 ⟨rfl, hb5⟩
        have HB5 := Lib.hid (HB.out.1.trans (hb5.mono HB.out.1.size))
        clear hb5 c0
        go_wp2
        go_roundg (gk - 1)
        case measure => omega
        case rel => exact ⟨k + 1, by omega, by go_num, Lib.hid ⟨HB5.out, HT.out⟩⟩
      | true =>
        rw [hv] at HC
        have HT := Lib.hid (show (k : Int) = R by rw [HR.out]; exact (idxR_hit HX.out hv HB.out.2).symm)
        clear hv
        go_wp2_with fail
        refine HC.out.mono ?_
        rintro e w5 ⟨rfl, hb5⟩
        have HB5 := Lib.hid (HB.out.1.trans (hb5.mono HB.out.1.size))
        clear hb5 c0
        go_wp2
        go_ret
        exact ⟨ret_int HT.out, HB5.out⟩
    · obtain rfl : k = xs.length := by omega
      have HT := Lib.hid (show (-1 : Int) = R by
        have h1 := HB.out.2
        rw [List.take_length] at h1
        rw [HR.out, idxR_miss h1])
      go_wp2
      go_ret
      exact ⟨ret_int HT.out, HB.out.1⟩
theorem hasT_any (f : Nat) (caps : Array Value) (S : Nat → Prop) (p : ByteArray → Bool) (a : Option Addr) (c : Nat) (xs : List ByteArray) (w : World) (hin : ListK 1 strP S w a xs) (hn : xs.length ≤ 1000000) (hf : TestT w f caps S p xs) :
    Calls Tryd.prog 17 #[.slice a xs.length c, .func (.func f) #[] caps] w fun e w' => e = .returned (.bool (xs.any p)) ∧ Below w.heap.size w w' := by
  have HI := Lib.hid (idxT_any f caps S p a c xs w hin hn hf)
  obtain ⟨i, hi⟩ : ∃ i, i = idxR p 0 xs := ⟨_, rfl⟩
  rw [← hi] at HI
  have HA := Lib.hid (show decide (0 ≤ i) = xs.any p by rw [hi]; exact idxR_ge xs 0)
  clear hi hin hn hf
  go_enter Tryd.func17, Tryd.ntmps17
  go_wp2_with fail
  refine HI.out.mono ?_
  rintro e w5 ⟨rfl, hb5⟩
  have HB5 := Lib.hid hb5
  clear hb5
  go_wp2
  go_ret
  exact ⟨ret_bool HA.out, HB5.out⟩

/-- The function value f tests each of these. -/
structure TestF (w0 : World) (f : Nat) (caps : Array Value) (D : Nat) (S : Nat → Prop) (p : FnD → Bool) (xs : List FnD) : Prop where
  enter : ∀ v W, (callFunc f (#[v] ++ caps)).run Tryd.prog W = .ok (.enter f (#[v] ++ caps)) W
  calls : ∀ x ∈ xs, ∀ cs W, Below w0.heap.size w0 W → FnP D S W cs x → Calls Tryd.prog f (#[.agg cs.toArray] ++ caps) W fun e w' => e = .returned (.bool (p x)) ∧ Below W.heap.size W w'
set_option maxRecDepth 100000 in
set_option maxHeartbeats 2000000 in
theorem idxF_any (f : Nat) (caps : Array Value) (D : Nat) (S : Nat → Prop) (p : FnD → Bool) (a : Option Addr) (c : Nat) (xs : List FnD) (w : World) (hin : ListK 3 (FnP D) S w a xs) (hn : xs.length ≤ 1000000) (hf : TestF w f caps D S p xs) :
    Calls Tryd.prog 13 #[.slice a xs.length c, .func (.func f) #[] caps] w fun e w' => e = .returned (.int .i64 (idxR p 0 xs)) ∧ Below w.heap.size w w' := by
  have hen := hf.enter
  have HF := Lib.hid (And.intro hf.calls hin)
  have hn2 : xs.length ≤ 9223372036854775807 := by omega
  have HN := Lib.hid hn
  obtain ⟨R, hR⟩ : ∃ R, R = idxR p 0 xs := ⟨_, rfl⟩
  rw [← hR]
  have HR := Lib.hid hR
  clear hf hin hn hR
  go_enter Tryd.func13, Tryd.ntmps13
  go_wp2_with fail
  go_loopg [8] xs.length (fun G i wr => ∃ (k : Nat), k + G = xs.length ∧ i = .int .i64 k ∧ Hid (Below w.heap.size w wr ∧ (xs.take k).any p = false))
  case atStart => exact ⟨0, by omega, rfl, Lib.hid ⟨Below.refl _ _, rfl⟩⟩
  case round =>
    obtain ⟨k, hk, rfl, HB⟩ := hrel
    by_cases hlt : k < xs.length
    · have hki : (k : Int) < (xs.length : Int) := by omega
      obtain ⟨b, off, x, pa, pc, ba, bc, rfl, hx, hS, c0, c1, c2⟩ := fn_place (HF.out.2.below (fnP_stays D) HB.out.1) hlt
      have HC := Lib.hid (HF.out.1 x (List.mem_of_getElem? hx) _ wr HB.out.1 hS)
      have HX := Lib.hid hx
      clear hx hS
      cases hv : p x with
      | false =>
        rw [hv] at HC
        have HT := Lib.hid (show (xs.take (k + 1)).any p = false by rw [any_take HX.out, HB.out.2, hv]; rfl)
        clear hv
        go_wp2_with fail
        refine HC.out.mono ?_
        rintro e w5 ⟨rfl, hb5⟩
        have HB5 := Lib.hid (HB.out.1.trans (hb5.mono HB.out.1.size))
        clear hb5 c0 c1 c2
        go_wp2
        go_roundg (gk - 1)
        case measure => omega
        case rel => exact ⟨k + 1, by omega, by go_num, Lib.hid ⟨HB5.out, HT.out⟩⟩
      | true =>
        rw [hv] at HC
        have HT := Lib.hid (show (k : Int) = R by rw [HR.out]; exact (idxR_hit HX.out hv HB.out.2).symm)
        clear hv
        go_wp2_with fail
        refine HC.out.mono ?_
        rintro e w5 ⟨rfl, hb5⟩
        have HB5 := Lib.hid (HB.out.1.trans (hb5.mono HB.out.1.size))
        clear hb5 c0 c1 c2
        go_wp2
        go_ret
        exact ⟨ret_int HT.out, HB5.out⟩
    · obtain rfl : k = xs.length := by omega
      have HT := Lib.hid (show (-1 : Int) = R by
        have h1 := HB.out.2
        rw [List.take_length] at h1
        rw [HR.out, idxR_miss h1])
      go_wp2
      go_ret
      exact ⟨ret_int HT.out, HB.out.1⟩

end Go.Proofs.YtccdmgncjlpebaaDoor
