/-
  Facts about slices of ints that every walk of this seat uses.
-/
import Derived.Test.YtajnldkempeheaaCore
import Derived.Deep.RegionLaw

namespace Go.Proofs.Ytajnldkempeheaa
open Go.RowKit

theorem info_int : (Try.prog.info? 3).map (fun i => (i.zero, i.size, i.bytes)) = some (some (.int .i64 0), 1, 8) := by kernel_rfl
theorem und_ints : Try.prog.underlying 26 = some (.slice 3) := by kernel_rfl

theorem ints_of_own {w : World} {base : Nat} {a : Option Addr} {n cap : Nat} {xs : List Int} (h : w.ownsRow base 3 1 (.slice a n cap) n (xs.map (Value.int .i64))) : IntsAt w a n cap xs :=
  ⟨⟨by have := h.1; simpa using this, rowAt_of_own h⟩, (own_cap h).1, (own_cap h).2, own_addr h⟩

/-- The call returned a new slice that reads as these ints; nothing that was there has changed. -/
def RetInts (w : World) (xs : List Int) (n : Nat) (e : Ending) (w' : World) : Prop :=
  ∃ a cap, e = .returned (.slice a n cap) ∧ w'.ownsRow w.heap.size 3 1 (.slice a n cap) n (xs.map (Value.int .i64)) ∧ Below w.heap.size w w'

end Go.Proofs.Ytajnldkempeheaa

/-
  Walks of the helpers of the laws over slices of ints: toIntS makes a copy, eqIntS compares.
-/
namespace Go.Proofs.Ytajnldkempeheaa
open Go.RowKit

end Go.Proofs.Ytajnldkempeheaa

/-
  The laws' size of a slice of ints.
-/
namespace Go.Proofs.Ytajnldkempeheaa
open Go.RowKit

/-! ### sizes -/
end Go.Proofs.Ytajnldkempeheaa

/-
  The law of append onto a slice of the call's own, whatever the source is: nil, empty, or cut out of another slice.
-/
namespace Go.Proofs.Ytajnldkempeheaa
open Go.RowKit

section
variable {P : Program}

theorem run_append_any (w : World) (base : Nat) (t ty e : TypeId) (i : TypeInfo) (z : Value) (size bytes : Nat) (ht : P.underlying t = some (.slice e)) (hi : P.info? e = some i) (hz : i.zero = some z)
    (hsize : i.size = size) (hby : i.bytes = bytes) (hzs : z.cells.size = size) (hsz : 0 < size)
    (v : Value) (n : Nat) (xs : List Value) (hown : w.ownsRow base e size v n xs)
    (ao : Option Addr) (m c : Nat) (news : List Value) (hl : news.length = m * size) (hrow : RowAt w ao news) (hnil : ao = none → c = 0) (h1 : ∀ u ∈ news, u.oneCell' = true)
    (h63 : n + m ≤ maxLen) (hbytes : (n + m) * bytes ≤ 140737488355328) (hbase : base ≤ w.heap.size) :
    ∃ a' c' w', (Builtin.append_ #[t, t] ty #[v, .slice ao m c]).run P w = .ok (.slice a' (n + m) c') w' ∧ w'.ownsRow base e size (.slice a' (n + m) c') (n + m) (xs ++ news) ∧
      w.grownBy w' v.ownBlock ∧ ((Value.slice a' (n + m) c').ownBlock = v.ownBlock ∨ (Value.slice a' (n + m) c').ownBlock = some w.heap.size) := by
  cases ao with
  | some ad =>
    obtain ⟨v', w', hr, h2, h3, _, h5⟩ := run_append_own_at (P := P) w base t ty e i z size bytes ht hi hz hsize hby hzs hsz v n xs hown ad m c news hl hrow.cells h1 h63 hbytes hbase
    rcases h2.2 with ⟨rfl, hn⟩ | ⟨g, cap, cur, rfl, _⟩
    · refine ⟨none, 0, w', ?_⟩
      rw [hn] at h2 ⊢
      exact ⟨hr, h2, h3, h5⟩
    · exact ⟨_, _, w', hr, h2, h3, h5⟩
  | none =>
    have hc : c = 0 := hnil rfl
    subst hc
    have hn : news = [] := by
      rcases hrow with h | ⟨_, _, h, _⟩
      · exact h
      · cases h
    subst hn
    have hm : m = 0 := by
      rcases Nat.eq_zero_or_pos m with h | h
      · exact h
      · have := Nat.mul_pos h hsz
        simp at hl; omega
    subst hm
    have hrun := run_append_owned_none (P := P) w base t ty e i size ht hi v n xs hown
    rcases hown.2 with ⟨rfl, hn⟩ | ⟨g, cap, cur, rfl, _⟩
    · subst hn
      exact ⟨none, 0, w, hrun, by simpa using hown, World.grownBy.refl _ _, .inl rfl⟩
    · exact ⟨_, _, w, hrun, by simpa using hown, World.grownBy.refl _ _, .inl rfl⟩

theorem wpList_append_any {w : World} {ops : Array Oper} {rest : List Oper} {o : Oper} {a : Act} {Q : Exit → Act → World → Prop} (hgd : o.guard = none) (s x : Operand) (t : TypeId)
    (ho : o.op = .call { callee := .builtin .append, args := #[s, x], argTypes := #[t, t] })
    (base : Nat) (e : TypeId) (i : TypeInfo) (z : Value) (size bytes : Nat) (ht : P.underlying t = some (.slice e)) (hi : P.info? e = some i) (hz : i.zero = some z)
    (hsize : i.size = size) (hby : i.bytes = bytes) (hzs : z.cells.size = size) (hsz : 0 < size)
    (v : Value) (n : Nat) (xs : List Value) (hs : a.eval s = v) (hown : w.ownsRow base e size v n xs)
    (ao : Option Addr) (m c : Nat) (news : List Value) (hx : a.eval x = .slice ao m c) (hl : news.length = m * size) (hrow : RowAt w ao news) (hnil : ao = none → c = 0) (h1 : ∀ u ∈ news, u.oneCell' = true)
    (h63 : n + m ≤ maxLen) (hbytes : (n + m) * bytes ≤ 140737488355328) (hbase : base ≤ w.heap.size)
    (h : ∀ a' c' w', w'.ownsRow base e size (.slice a' (n + m) c') (n + m) (xs ++ news) → w.grownBy w' v.ownBlock →
      ((Value.slice a' (n + m) c').ownBlock = v.ownBlock ∨ (Value.slice a' (n + m) c').ownBlock = some w.heap.size) → wpList P ops Q rest (a.put o.dst (.slice a' (n + m) c')) w') : wpList P ops Q (o :: rest) a w := by
  refine wpList_plain hgd fun K hK => ?_
  obtain ⟨a', c', w', hr, h2, h3, h4⟩ := run_append_any (P := P) w base t o.type e i z size bytes ht hi hz hsize hby hzs hsz v n xs hown ao m c news hl hrow hnil h1 h63 hbytes hbase
  unfold Oper.wp execOp
  simp only [ho, resolve, invoke, builtin, Sem.run_bind, Sem.run_pure, Result.andThen_ok, List.map_toArray, List.map_cons, List.map_nil, hs, hx, hr]
  exact hK _ _ (h a' c' w' h2 h3 h4)

theorem step_append_any {w : World} {ops : Array Oper} {o : Oper} {a : Act} {K : Act → World → Prop} {Q : Exit → Act → World → Prop} {E : Prop} (hgd : o.guard = none) (s x : Operand) (t : TypeId)
    (ho : o.op = .call { callee := .builtin .append, args := #[s, x], argTypes := #[t, t] })
    (base : Nat) (e : TypeId) (i : TypeInfo) (z : Value) (size bytes : Nat) (ht : P.underlying t = some (.slice e)) (hi : P.info? e = some i) (hz : i.zero = some z)
    (hsize : i.size = size) (hby : i.bytes = bytes) (hzs : z.cells.size = size) (hsz : 0 < size)
    (v : Value) (n : Nat) (xs : List Value) (hs : a.eval s = v) (hown : w.ownsRow base e size v n xs)
    (ao : Option Addr) (m c : Nat) (news : List Value) (hx : a.eval x = .slice ao m c) (hl : news.length = m * size) (hrow : RowAt w ao news) (hnil : ao = none → c = 0) (h1 : ∀ u ∈ news, u.oneCell' = true)
    (h63 : n + m ≤ maxLen) (hbytes : (n + m) * bytes ≤ 140737488355328) (hbase : base ≤ w.heap.size)
    (h : ∀ a' c' w', w'.ownsRow base e size (.slice a' (n + m) c') (n + m) (xs ++ news) → w.grownBy w' v.ownBlock →
      ((Value.slice a' (n + m) c').ownBlock = v.ownBlock ∨ (Value.slice a' (n + m) c').ownBlock = some w.heap.size) → K (a.put o.dst (.slice a' (n + m) c')) w') :
    if Region.wanted o (yielded ops a.tmps) = true then Oper.wp P o a w K Q else E := by
  have hw : Region.wanted o (yielded ops a.tmps) = true := by simp [Region.wanted, hgd]
  rw [if_pos hw]
  obtain ⟨a', c', w', hr, h2, h3, h4⟩ := run_append_any (P := P) w base t o.type e i z size bytes ht hi hz hsize hby hzs hsz v n xs hown ao m c news hl hrow hnil h1 h63 hbytes hbase
  unfold Oper.wp execOp
  simp only [ho, resolve, invoke, builtin, Sem.run_bind, Sem.run_pure, Result.andThen_ok, List.map_toArray, List.map_cons, List.map_nil, hs, hx, hr]
  exact h a' c' w' h2 h3 h4
end

theorem oneCell_ints (xs : List Int) : ∀ u ∈ xs.map (Value.int .i64), u.oneCell' = true := by
  intro u hu
  obtain ⟨x, _, rfl⟩ := List.mem_map.1 hu
  rfl

section
variable {w : World} {ops : Array Oper} {rest : List Oper} {o : Oper} {a : Act} {Q : Exit → Act → World → Prop}
/-- append onto ints of the call's own, in a plain region. -/
theorem app_ints (hgd : o.guard = none) (s x : Operand) (ho : o.op = .call { callee := .builtin .append, args := #[s, x], argTypes := #[26, 26] })
    (base : Nat) (v : Value) (n : Nat) (xs : List Value) (hs : a.eval s = v) (hown : w.ownsRow base 3 1 v n xs)
    (ao : Option Addr) (m c : Nat) (ys : List Int) (hx : a.eval x = .slice ao m c) (hl : ys.length = m) (hrow : RowAt w ao (ys.map (Value.int .i64))) (hnil : ao = none → c = 0)
    (hb : n + m ≤ 4398046511104) (hbase : base ≤ w.heap.size)
    (h : ∀ a' c' w', w'.ownsRow base 3 1 (.slice a' (n + m) c') (n + m) (xs ++ ys.map (Value.int .i64)) → w.grownBy w' v.ownBlock →
      ((Value.slice a' (n + m) c').ownBlock = v.ownBlock ∨ (Value.slice a' (n + m) c').ownBlock = some w.heap.size) → wpList Try.prog ops Q rest (a.put o.dst (.slice a' (n + m) c')) w') : wpList Try.prog ops Q (o :: rest) a w := by
  obtain ⟨i0, hi, hz0, hz1, hz2⟩ := info_parts info_int
  exact wpList_append_any hgd s x 26 ho base 3 i0 (.int .i64 0) 1 8 und_ints hi hz0 hz1 hz2 rfl (by decide) v n xs hs hown ao m c _ hx (by rw [List.length_map, hl, Nat.mul_one]) hrow hnil (oneCell_ints _) (by unfold maxLen; omega) (by omega) hbase h
/-- append onto ints of the call's own, in a region that draws its order. -/
theorem step_app_ints {K : Act → World → Prop} {E : Prop} (hgd : o.guard = none) (s x : Operand) (ho : o.op = .call { callee := .builtin .append, args := #[s, x], argTypes := #[26, 26] })
    (base : Nat) (v : Value) (n : Nat) (xs : List Value) (hs : a.eval s = v) (hown : w.ownsRow base 3 1 v n xs)
    (ao : Option Addr) (m c : Nat) (ys : List Int) (hx : a.eval x = .slice ao m c) (hl : ys.length = m) (hrow : RowAt w ao (ys.map (Value.int .i64))) (hnil : ao = none → c = 0)
    (hb : n + m ≤ 4398046511104) (hbase : base ≤ w.heap.size)
    (h : ∀ a' c' w', w'.ownsRow base 3 1 (.slice a' (n + m) c') (n + m) (xs ++ ys.map (Value.int .i64)) → w.grownBy w' v.ownBlock →
      ((Value.slice a' (n + m) c').ownBlock = v.ownBlock ∨ (Value.slice a' (n + m) c').ownBlock = some w.heap.size) → K (a.put o.dst (.slice a' (n + m) c')) w') :
    if Region.wanted o (yielded ops a.tmps) = true then Oper.wp Try.prog o a w K Q else E := by
  obtain ⟨i0, hi, hz0, hz1, hz2⟩ := info_parts info_int
  exact step_append_any hgd s x 26 ho base 3 i0 (.int .i64 0) 1 8 und_ints hi hz0 hz1 hz2 rfl (by decide) v n xs hs hown ao m c _ hx (by rw [List.length_map, hl, Nat.mul_one]) hrow hnil (oneCell_ints _) (by unfold maxLen; omega) (by omega) hbase h
end

/-- What a block that was laid for one element holds. -/
theorem rowAt_one (w : World) (x : Value) (t : TypeId) : RowAt (w.alloc (.cells #[x] t)) (some ⟨w.heap.size, 0, none⟩) [x] :=
  .inr ⟨_, _, rfl, fun i v hv => by
    have := cell_one_new w x t i v hv
    have hadd : (⟨w.heap.size, 0, none⟩ : Addr).add i = ⟨w.heap.size, 0 + i, none⟩ := by unfold Addr.add; split <;> simp_all
    rwa [hadd] at this⟩

/-- An empty slice that was just made is owned. -/
theorem own_empty (w : World) (base : Nat) (e : TypeId) (size : Nat) (hb : base ≤ w.heap.size) : (w.alloc (.cells #[] e)).ownsRow base e size (.slice (some ⟨w.heap.size, 0, none⟩) 0 0) 0 [] :=
  World.ownsRow_made w #[] 0 hb (Nat.zero_le _) (by simp)

end Go.Proofs.Ytajnldkempeheaa

/-
  The laws' marks on a slice of ints.
-/
namespace Go.Proofs.Ytajnldkempeheaa
open Go.RowKit

/-! ### slices of slices -/

end Go.Proofs.Ytajnldkempeheaa

/-
  The reference's l7Insert puts a number into a sorted list unless it is there: the walk.
-/
namespace Go.Proofs.Ytajnldkempeheaa
open Go.RowKit

end Go.Proofs.Ytajnldkempeheaa

/-
  The library's slices.Index and Contains over ints: the walks.
-/
namespace Go.Proofs.Ytajnldkempeheaa
open Go.RowKit

/-! ### ints -/
/-- The index of the first element that is x, or -1. -/
def idxInt (x : Int) : List Int → Int
  | [] => -1
  | y :: ys => if y = x then 0 else if idxInt x ys < 0 then -1 else idxInt x ys + 1
theorem idxInt_none {x : Int} : ∀ {ys : List Int}, (∀ y ∈ ys, y ≠ x) → idxInt x ys = -1
  | [], _ => rfl
  | y :: ys, h => by
    have h1 := h y (by simp)
    have h2 := idxInt_none (ys := ys) (fun z hz => h z (by simp [hz]))
    simp [idxInt, h1, h2]
theorem idxInt_some {x : Int} : ∀ {ys : List Int} {k : Nat}, (∀ j y, j < k → ys[j]? = some y → y ≠ x) → ys[k]? = some x → idxInt x ys = k
  | [], _, _, h => by simp at h
  | y :: ys, 0, _, h => by simp at h; subst h; simp [idxInt]
  | y :: ys, k + 1, h, hx => by
    have h1 := h 0 y (by omega) (by simp)
    have h2 := idxInt_some (ys := ys) (k := k) (fun j z hj hz => h (j + 1) z (by omega) (by simpa using hz)) (by simpa using hx)
    simp only [idxInt, h1, h2, if_false]
    rw [if_neg (by omega)]
    omega
theorem idxInt_nonneg {x : Int} : ∀ ys : List Int, decide (0 ≤ idxInt x ys) = decide (x ∈ ys)
  | [] => by simp [idxInt]
  | y :: ys => by
    have ih := idxInt_nonneg (x := x) ys
    simp only [decide_eq_decide] at ih ⊢
    by_cases hp : y = x
    · simp [idxInt, hp]
    · have hp' : ¬ x = y := fun h => hp h.symm
      simp only [idxInt, hp, if_false, List.mem_cons, hp', false_or, ← ih]
      by_cases h : idxInt x ys < 0
      · simp [h]
      · simp [h]; omega

set_option maxHeartbeats 400000 in
theorem index_any (a : Option Addr) (len cap : Nat) (xs : List Int) (x : Int) (w : World) (hin : IntsRd w a len xs) (hs : len ≤ 1099511627776) :
    Calls Try.prog 46 #[.slice a len cap, .int .i64 x] w fun e w' => e = .returned (.int .i64 (idxInt x xs)) ∧ w = w' := by
  have HL := Lib.hid hin.length
  go_enter Try.func46, Try.ntmps46
  go_wp2
  go_loop [8] (fun i => ∃ k : Nat, k ≤ len ∧ i = .int .i64 k ∧ Hid (∀ j y, j < k → xs[j]? = some y → y ≠ x)) (fun i => len - (intOf i).toNat)
  case atStart => exact ⟨0, Nat.zero_le _, rfl, Lib.hid (fun j x hj => by omega)⟩
  case round =>
    obtain ⟨k, hk, rfl, hno⟩ := hrel
    by_cases hlt : k < len
    · obtain ⟨b, off, y, rfl, hy, hc⟩ := hin.place hlt
      have HY := Lib.hid hy
      clear hy
      by_cases hyx : y = x
      · subst hyx
        have ht : (y == y) = true := by simp
        have HI := Lib.hid (idxInt_some hno.out HY.out)
        go_wp2
        go_ret
        exact ⟨ret_int HI.out.symm, rfl⟩
      · have ht : (x == y) = false := by simp; exact fun h => hyx h.symm
        have HN := Lib.hid hyx
        clear hyx
        go_wp2
        go_round
        case rel =>
          refine ⟨k + 1, by omega, by go_num, Lib.hid fun j z hj hjz => ?_⟩
          by_cases hjk : j = k
          · subst hjk
            rw [HY.out] at hjz
            cases hjz
            exact HN.out
          · exact hno.out j z (by omega) hjz
        case measure => simp [intOf]; omega
    · obtain rfl : k = len := by omega
      go_wp2
      go_ret
      refine ⟨ret_int ?_, rfl⟩
      rw [idxInt_none]
      intro y hy
      obtain ⟨j, hj⟩ := List.getElem?_of_mem hy
      exact hno.out j y (by have := (List.getElem?_eq_some_iff.1 hj).1; have := HL.out; omega) hj

theorem contains_any (a : Option Addr) (len cap : Nat) (xs : List Int) (x : Int) (w : World) (hin : IntsRd w a len xs) (hs : len ≤ 1099511627776) :
    Calls Try.prog 68 #[.slice a len cap, .int .i64 x] w fun e w' => e = .returned (.bool (decide (x ∈ xs))) ∧ w = w' := by
  have HI := Lib.hid (idxInt_nonneg (x := x) xs)
  go_enter Try.func68, Try.ntmps68
  go_wp2_with fail
  refine (index_any a len cap xs x w hin hs).mono ?_
  rintro e w1 ⟨rfl, rfl⟩
  go_wp2
  go_ret
  exact ⟨ret_bool HI.out, rfl⟩

end Go.Proofs.Ytajnldkempeheaa
