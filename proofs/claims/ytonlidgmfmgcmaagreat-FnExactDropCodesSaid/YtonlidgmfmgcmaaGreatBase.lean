
/-
  Facts about slices of ints that every walk of this seat uses.
-/
import Derived.Test.YtonlidgmfmgcmaaGreatCore
import Derived.Deep.RegionLaw

namespace Go.Proofs.YtonlidgmfmgcmaaGreat
open Go.RowKit

theorem info_int : (Tryz.prog.info? 3).map (fun i => (i.zero, i.size, i.bytes)) = some (some (.int .i64 0), 1, 8) := by kernel_rfl
theorem und_ints : Tryz.prog.underlying 26 = some (.slice 3) := by kernel_rfl

theorem ints_of_own {w : World} {base : Nat} {a : Option Addr} {n cap : Nat} {xs : List Int} (h : w.ownsRow base 3 1 (.slice a n cap) n (xs.map (Value.int .i64))) : IntsAt w a n cap xs :=
  ⟨⟨by have := h.1; simpa using this, rowAt_of_own h⟩, (own_cap h).1, (own_cap h).2, own_addr h⟩

/-- The call returned a new slice that reads as these ints; nothing that was there has changed. -/
def RetInts (w : World) (xs : List Int) (n : Nat) (e : Ending) (w' : World) : Prop :=
  ∃ a cap, e = .returned (.slice a n cap) ∧ w'.ownsRow w.heap.size 3 1 (.slice a n cap) n (xs.map (Value.int .i64)) ∧ Below w.heap.size w w'

end Go.Proofs.YtonlidgmfmgcmaaGreat

/-
  Walks of the helpers of the laws over slices of ints: toIntS makes a copy, eqIntS compares.
-/
namespace Go.Proofs.YtonlidgmfmgcmaaGreat
open Go.RowKit

theorem set_next {xs : List Int} {k n : Nat} {x : Int} (h : xs[k]? = some x) (hn : xs.length = n) :
    ((xs.take k).map (Value.int .i64) ++ List.replicate (n - k) (Value.int .i64 0)).set k (.int .i64 x) =
      (xs.take (k + 1)).map (Value.int .i64) ++ List.replicate (n - (k + 1)) (Value.int .i64 0) := by
  have hk : k < xs.length := (List.getElem?_eq_some_iff.1 h).1
  have hl : ((xs.take k).map (Value.int .i64)).length = k := by simp; omega
  rw [List.set_append_right _ _ (by omega), hl, Nat.sub_self, take_succ_of h, List.map_append, List.append_assoc]
  obtain ⟨m, hm⟩ : ∃ m, n - k = m + 1 := ⟨n - k - 1, by omega⟩
  rw [hm, show n - (k + 1) = m by omega]
  simp [List.replicate_succ]

set_option maxHeartbeats 400000 in
theorem toIntS_any (a : Option Addr) (len cap : Nat) (xs : List Int) (w : World) (h : IntsRd w a len xs) (hs : len ≤ 1099511627776) :
    Calls Tryz.prog 99 #[.slice a len cap] w fun e w' => RetInts w xs len e w' := by
  obtain ⟨i0, hi, hz0, hz1, hz2⟩ := info_parts info_int
  go_enter Tryz.func99, Tryz.ntmps99
  go_wp2_with (at_make; refine wpList_make_full _ rfl _ _ 26 rfl w.heap.size 3 i0 (.int .i64 0) 1 und_ints hi hz0 hz1 _ _ _ _ len rfl rfl rfl rfl ?b2 ?b3 ?b4 ?_)
  case b2 => rw [hz2]; omega
  case b3 => unfold maxLen; omega
  case b4 => exact Nat.le_refl _
  intro w1 hown hg
  have hb1 : Below w.heap.size w w1 := (Below.refl _ _).grown hg (Nat.le_refl _) (by simp)
  rw [toList_madeCells_one] at hown
  have h1 := h.later hb1
  have hl := h.length
  go_wp2
  go_loopw [4] (fun i wr => ∃ k : Nat, k ≤ len ∧ i = .int .i64 k ∧ Below w.heap.size w wr ∧
      wr.ownsRow w.heap.size 3 1 (.slice (some ⟨w.heap.size, 0, none⟩) len len) len ((xs.take k).map (Value.int .i64) ++ List.replicate (len - k) (Value.int .i64 0)))
    (fun i _ => len - (intOf i).toNat)
  case atStart => exact ⟨0, Nat.zero_le _, rfl, hb1, by simpa using hown⟩
  case round =>
    obtain ⟨k, hk, rfl, hbr, hownr⟩ := hrel
    clear hown hg h1 hb1
    by_cases hlt : k < len
    · obtain ⟨b, off, x, rfl, hx, hc⟩ := (h.later hbr).place hlt
      have hfz := hownr.frozenAt k
      have hcl : ∃ u, wr.cell? ⟨w.heap.size, k, none⟩ = some u := by
        rw [hownr.cellAt k (by omega)]
        exact ⟨_, List.getElem?_eq_getElem (by simp; omega)⟩
      obtain ⟨u, hcu⟩ := hcl
      have HX := Lib.hid hx
      have HO := Lib.hid hownr
      have HL := Lib.hid hl
      clear hx hownr hl
      go_wp2
      go_roundw
      case rel =>
        refine ⟨k + 1, by omega, by go_num, hbr.setCell (Nat.le_refl _) _, ?_⟩
        rw [← set_next HX.out HL.out]
        exact (HO.out.stored k _).1
      case measure => simp [intOf]; omega
    · obtain rfl : k = len := by omega
      have HO := Lib.hid hownr
      have HL := Lib.hid hl
      clear hownr hl
      go_wp2
      go_ret
      refine ⟨_, _, rfl, ?_, hbr⟩
      have := HO.out
      rw [List.take_of_length_le (by have := HL.out; omega), Nat.sub_self] at this
      simpa using this

set_option maxHeartbeats 400000 in
theorem eqIntS_quiet (a a' : Option Addr) (len cap cap' : Nat) (xs : List Int) (w : World) (h : IntsRd w a len xs) (h' : IntsRd w a' len xs) (hs : len ≤ 1099511627776) :
    Calls Tryz.prog 9 #[.slice a len cap, .slice a' len cap'] w fun e w' => e = .returned (.bool true) ∧ ∃ m, w' = w.drewN m := by
  have hne : ((len : Int) != (len : Int)) = false := by simp
  go_enter Tryz.func9, Tryz.ntmps9
  go_wp2
  go_loopw [5] (fun i wr => ∃ k m : Nat, k ≤ len ∧ i = .int .i64 k ∧ wr = w.drewN m) (fun i _ => len - (intOf i).toNat)
  case atStart => exact ⟨0, 0, Nat.zero_le _, rfl, rfl⟩
  case round =>
    obtain ⟨k, m, hk, rfl, rfl⟩ := hrel
    by_cases hlt : k < len
    · obtain ⟨b, off, x, rfl, hx, hc⟩ := h.place hlt
      obtain ⟨b', off', x', rfl, hx', hc'⟩ := h'.place hlt
      obtain rfl : x' = x := by rw [hx] at hx'; exact (Option.some.inj hx').symm
      clear hx hx' hne
      have hne : (x' != x') = false := by simp
      go_wp2
      go_quiet (fail)
      go_wp2
      go_roundw
      case rel => exact ⟨k + 1, m + nq, by omega, by go_num, rfl⟩
      case measure => simp [intOf]; omega
    · go_wp2
      go_ret
      exact ⟨rfl, _, rfl⟩

theorem eqIntS_true (a a' : Option Addr) (len cap cap' : Nat) (xs : List Int) (w : World) (h : IntsRd w a len xs) (h' : IntsRd w a' len xs) (hs : len ≤ 1099511627776) :
    Calls Tryz.prog 9 #[.slice a len cap, .slice a' len cap'] w fun e w' => e = .returned (.bool true) ∧ Below w.heap.size w w' :=
  (eqIntS_quiet a a' len cap cap' xs w h h' hs).mono fun _ _ ⟨he, m, hm⟩ => ⟨he, by rw [hm]; exact below_drewN (Below.refl _ _) m⟩

end Go.Proofs.YtonlidgmfmgcmaaGreat

/-
  The laws' size of a slice of ints.
-/
namespace Go.Proofs.YtonlidgmfmgcmaaGreat
open Go.RowKit

/-! ### sizes -/
theorem szIntS_any (a : Option Addr) (len cap : Nat) (left : Int) (w : World) (h0 : 0 ≤ left) (h1 : left ≤ 1048576) (hl : len ≤ 9223372036854775807) :
    Calls Tryz.prog 96 #[.slice a len cap, .int .i64 left] w fun e w' => e = .returned (.int .i64 (if left < len then -1 else left - len)) ∧ w = w' := by
  by_cases h : left < len
  · rw [if_pos h]
    go_enter Tryz.func96, Tryz.ntmps96
    go_wp2
    go_ret
    exact ⟨rfl, rfl⟩
  · rw [if_neg h]
    go_enter Tryz.func96, Tryz.ntmps96
    go_wp2
    go_ret
    exact ⟨rfl, rfl⟩

end Go.Proofs.YtonlidgmfmgcmaaGreat

/-
  The law of append onto a slice of the call's own, whatever the source is: nil, empty, or cut out of another slice.
-/
namespace Go.Proofs.YtonlidgmfmgcmaaGreat
open Go.RowKit

section
variable {P : Program}

theorem run_append_any (w : World) (base : Nat) (t ty e : TypeId) (i : TypeInfo) (z : Value) (size bytes : Nat) (ht : P.underlying t = some (.slice e)) (hi : P.info? e = some i) (hz : i.zero = some z)
    (hsize : i.size = size) (hby : i.bytes = bytes) (hzs : z.cells.size = size) (hsz : 0 < size)
    (v : Value) (n : Nat) (xs : List Value) (hown : w.ownsRow base e size v n xs)
    (ao : Option Addr) (m c : Nat) (news : List Value) (hl : news.length = m * size) (hrow : RowAt w ao news) (hnil : ao = none → c = 0) (h1 : ∀ u ∈ news, u.oneCell' = true)
    (h63 : n + m ≤ maxLen) (hbytes : (n + m) * bytes ≤ 140737488355328) (hbase : base ≤ w.heap.size) :
    ∃ a' c' w', (Builtin.append_ #[t, t] ty #[v, .slice ao m c]).run P w = .ok (.slice a' (n + m) c') w' ∧ w'.ownsRow base e size (.slice a' (n + m) c') (n + m) (xs ++ news) ∧
      w.grownBy w' v.ownBlock ∧ ((Value.slice a' (n + m) c').ownBlock = v.ownBlock ∨ (Value.slice a' (n + m) c').ownBlock = some w.heap.size) := by
  cases ao with
  | some ad =>
    obtain ⟨v', w', hr, h2, h3, _, h5⟩ := run_append_own_at (P := P) w base t ty e i z size bytes ht hi hz hsize hby hzs hsz v n xs hown ad m c news hl hrow.cells h1 h63 hbytes hbase
    rcases h2.2 with ⟨rfl, hn⟩ | ⟨g, cap, cur, rfl, _⟩
    · refine ⟨none, 0, w', ?_⟩
      rw [hn] at h2 ⊢
      exact ⟨hr, h2, h3, h5⟩
    · exact ⟨_, _, w', hr, h2, h3, h5⟩
  | none =>
    have hc : c = 0 := hnil rfl
    subst hc
    have hn : news = [] := by
      rcases hrow with h | ⟨_, _, h, _⟩
      · exact h
      · cases h
    subst hn
    have hm : m = 0 := by
      rcases Nat.eq_zero_or_pos m with h | h
      · exact h
      · have := Nat.mul_pos h hsz
        simp at hl; omega
    subst hm
    have hrun := run_append_owned_none (P := P) w base t ty e i size ht hi v n xs hown
    rcases hown.2 with ⟨rfl, hn⟩ | ⟨g, cap, cur, rfl, _⟩
    · subst hn
      exact ⟨none, 0, w, hrun, by simpa using hown, World.grownBy.refl _ _, .inl rfl⟩
    · exact ⟨_, _, w, hrun, by simpa using hown, World.grownBy.refl _ _, .inl rfl⟩

theorem wpList_append_any {w : World} {ops : Array Oper} {rest : List Oper} {o : Oper} {a : Act} {Q : Exit → Act → World → Prop} (hgd : o.guard = none) (s x : Operand) (t : TypeId)
    (ho : o.op = .call { callee := .builtin .append, args := #[s, x], argTypes := #[t, t] })
    (base : Nat) (e : TypeId) (i : TypeInfo) (z : Value) (size bytes : Nat) (ht : P.underlying t = some (.slice e)) (hi : P.info? e = some i) (hz : i.zero = some z)
    (hsize : i.size = size) (hby : i.bytes = bytes) (hzs : z.cells.size = size) (hsz : 0 < size)
    (v : Value) (n : Nat) (xs : List Value) (hs : a.eval s = v) (hown : w.ownsRow base e size v n xs)
    (ao : Option Addr) (m c : Nat) (news : List Value) (hx : a.eval x = .slice ao m c) (hl : news.length = m * size) (hrow : RowAt w ao news) (hnil : ao = none → c = 0) (h1 : ∀ u ∈ news, u.oneCell' = true)
    (h63 : n + m ≤ maxLen) (hbytes : (n + m) * bytes ≤ 140737488355328) (hbase : base ≤ w.heap.size)
    (h : ∀ a' c' w', w'.ownsRow base e size (.slice a' (n + m) c') (n + m) (xs ++ news) → w.grownBy w' v.ownBlock →
      ((Value.slice a' (n + m) c').ownBlock = v.ownBlock ∨ (Value.slice a' (n + m) c').ownBlock = some w.heap.size) → wpList P ops Q rest (a.put o.dst (.slice a' (n + m) c')) w') : wpList P ops Q (o :: rest) a w := by
  refine wpList_plain hgd fun K hK => ?_
  obtain ⟨a', c', w', hr, h2, h3, h4⟩ := run_append_any (P := P) w base t o.type e i z size bytes ht hi hz hsize hby hzs hsz v n xs hown ao m c news hl hrow hnil h1 h63 hbytes hbase
  unfold Oper.wp execOp
  simp only [ho, resolve, invoke, builtin, Sem.run_bind, Sem.run_pure, Result.andThen_ok, List.map_toArray, List.map_cons, List.map_nil, hs, hx, hr]
  exact hK _ _ (h a' c' w' h2 h3 h4)

theorem step_append_any {w : World} {ops : Array Oper} {o : Oper} {a : Act} {K : Act → World → Prop} {Q : Exit → Act → World → Prop} {E : Prop} (hgd : o.guard = none) (s x : Operand) (t : TypeId)
    (ho : o.op = .call { callee := .builtin .append, args := #[s, x], argTypes := #[t, t] })
    (base : Nat) (e : TypeId) (i : TypeInfo) (z : Value) (size bytes : Nat) (ht : P.underlying t = some (.slice e)) (hi : P.info? e = some i) (hz : i.zero = some z)
    (hsize : i.size = size) (hby : i.bytes = bytes) (hzs : z.cells.size = size) (hsz : 0 < size)
    (v : Value) (n : Nat) (xs : List Value) (hs : a.eval s = v) (hown : w.ownsRow base e size v n xs)
    (ao : Option Addr) (m c : Nat) (news : List Value) (hx : a.eval x = .slice ao m c) (hl : news.length = m * size) (hrow : RowAt w ao news) (hnil : ao = none → c = 0) (h1 : ∀ u ∈ news, u.oneCell' = true)
    (h63 : n + m ≤ maxLen) (hbytes : (n + m) * bytes ≤ 140737488355328) (hbase : base ≤ w.heap.size)
    (h : ∀ a' c' w', w'.ownsRow base e size (.slice a' (n + m) c') (n + m) (xs ++ news) → w.grownBy w' v.ownBlock →
      ((Value.slice a' (n + m) c').ownBlock = v.ownBlock ∨ (Value.slice a' (n + m) c').ownBlock = some w.heap.size) → K (a.put o.dst (.slice a' (n + m) c')) w') :
    if Region.wanted o (yielded ops a.tmps) = true then Oper.wp P o a w K Q else E := by
  have hw : Region.wanted o (yielded ops a.tmps) = true := by simp [Region.wanted, hgd]
  rw [if_pos hw]
  obtain ⟨a', c', w', hr, h2, h3, h4⟩ := run_append_any (P := P) w base t o.type e i z size bytes ht hi hz hsize hby hzs hsz v n xs hown ao m c news hl hrow hnil h1 h63 hbytes hbase
  unfold Oper.wp execOp
  simp only [ho, resolve, invoke, builtin, Sem.run_bind, Sem.run_pure, Result.andThen_ok, List.map_toArray, List.map_cons, List.map_nil, hs, hx, hr]
  exact h a' c' w' h2 h3 h4
end

theorem oneCell_ints (xs : List Int) : ∀ u ∈ xs.map (Value.int .i64), u.oneCell' = true := by
  intro u hu
  obtain ⟨x, _, rfl⟩ := List.mem_map.1 hu
  rfl

section
variable {w : World} {ops : Array Oper} {rest : List Oper} {o : Oper} {a : Act} {Q : Exit → Act → World → Prop}
/-- append onto ints of the call's own, in a plain region. -/
theorem app_ints (hgd : o.guard = none) (s x : Operand) (ho : o.op = .call { callee := .builtin .append, args := #[s, x], argTypes := #[26, 26] })
    (base : Nat) (v : Value) (n : Nat) (xs : List Value) (hs : a.eval s = v) (hown : w.ownsRow base 3 1 v n xs)
    (ao : Option Addr) (m c : Nat) (ys : List Int) (hx : a.eval x = .slice ao m c) (hl : ys.length = m) (hrow : RowAt w ao (ys.map (Value.int .i64))) (hnil : ao = none → c = 0)
    (hb : n + m ≤ 4398046511104) (hbase : base ≤ w.heap.size)
    (h : ∀ a' c' w', w'.ownsRow base 3 1 (.slice a' (n + m) c') (n + m) (xs ++ ys.map (Value.int .i64)) → w.grownBy w' v.ownBlock →
      ((Value.slice a' (n + m) c').ownBlock = v.ownBlock ∨ (Value.slice a' (n + m) c').ownBlock = some w.heap.size) → wpList Tryz.prog ops Q rest (a.put o.dst (.slice a' (n + m) c')) w') : wpList Tryz.prog ops Q (o :: rest) a w := by
  obtain ⟨i0, hi, hz0, hz1, hz2⟩ := info_parts info_int
  exact wpList_append_any hgd s x 26 ho base 3 i0 (.int .i64 0) 1 8 und_ints hi hz0 hz1 hz2 rfl (by decide) v n xs hs hown ao m c _ hx (by rw [List.length_map, hl, Nat.mul_one]) hrow hnil (oneCell_ints _) (by unfold maxLen; omega) (by omega) hbase h
/-- append onto ints of the call's own, in a region that draws its order. -/
theorem step_app_ints {K : Act → World → Prop} {E : Prop} (hgd : o.guard = none) (s x : Operand) (ho : o.op = .call { callee := .builtin .append, args := #[s, x], argTypes := #[26, 26] })
    (base : Nat) (v : Value) (n : Nat) (xs : List Value) (hs : a.eval s = v) (hown : w.ownsRow base 3 1 v n xs)
    (ao : Option Addr) (m c : Nat) (ys : List Int) (hx : a.eval x = .slice ao m c) (hl : ys.length = m) (hrow : RowAt w ao (ys.map (Value.int .i64))) (hnil : ao = none → c = 0)
    (hb : n + m ≤ 4398046511104) (hbase : base ≤ w.heap.size)
    (h : ∀ a' c' w', w'.ownsRow base 3 1 (.slice a' (n + m) c') (n + m) (xs ++ ys.map (Value.int .i64)) → w.grownBy w' v.ownBlock →
      ((Value.slice a' (n + m) c').ownBlock = v.ownBlock ∨ (Value.slice a' (n + m) c').ownBlock = some w.heap.size) → K (a.put o.dst (.slice a' (n + m) c')) w') :
    if Region.wanted o (yielded ops a.tmps) = true then Oper.wp Tryz.prog o a w K Q else E := by
  obtain ⟨i0, hi, hz0, hz1, hz2⟩ := info_parts info_int
  exact step_append_any hgd s x 26 ho base 3 i0 (.int .i64 0) 1 8 und_ints hi hz0 hz1 hz2 rfl (by decide) v n xs hs hown ao m c _ hx (by rw [List.length_map, hl, Nat.mul_one]) hrow hnil (oneCell_ints _) (by unfold maxLen; omega) (by omega) hbase h
end

/-- What a block that was laid for one element holds. -/
theorem rowAt_one (w : World) (x : Value) (t : TypeId) : RowAt (w.alloc (.cells #[x] t)) (some ⟨w.heap.size, 0, none⟩) [x] :=
  .inr ⟨_, _, rfl, fun i v hv => by
    have := cell_one_new w x t i v hv
    have hadd : (⟨w.heap.size, 0, none⟩ : Addr).add i = ⟨w.heap.size, 0 + i, none⟩ := by unfold Addr.add; split <;> simp_all
    rwa [hadd] at this⟩

/-- An empty slice that was just made is owned. -/
theorem own_empty (w : World) (base : Nat) (e : TypeId) (size : Nat) (hb : base ≤ w.heap.size) : (w.alloc (.cells #[] e)).ownsRow base e size (.slice (some ⟨w.heap.size, 0, none⟩) 0 0) 0 [] :=
  World.ownsRow_made w #[] 0 hb (Nat.zero_le _) (by simp)

end Go.Proofs.YtonlidgmfmgcmaaGreat

/-
  The laws' marks on a slice of ints.
-/
namespace Go.Proofs.YtonlidgmfmgcmaaGreat
open Go.RowKit

/-- The numbers k, k+1, .. (n of them). -/
def run (k : Int) (n : Nat) : List Int := (List.range n).map (fun i : Nat => k + i)
theorem run_length (k : Int) (n : Nat) : (run k n).length = n := by simp [run]
theorem run_succ (k : Int) (n : Nat) : run k (n + 1) = run k n ++ [k + n] := by simp [run, List.range_succ]
theorem run_get (k : Int) (n i : Nat) (h : i < n) : (run k n)[i]? = some (k + i) := by simp [run, h]

theorem mark_next {vs : List Value} {k : Int} {j n : Nat} (hj : j < n) (hn : vs.length = n) :
    ((run k j).map (Value.int .i64) ++ vs.drop j).set j (.int .i64 (k + j)) = (run k (j + 1)).map (Value.int .i64) ++ vs.drop (j + 1) := by
  have hl : ((run k j).map (Value.int .i64)).length = j := by simp [run_length]
  rw [List.set_append_right _ _ (by omega), hl, Nat.sub_self, run_succ, List.map_append, List.append_assoc]
  obtain ⟨u, hu⟩ : ∃ u, vs.drop j = u :: vs.drop (j + 1) := ⟨_, List.drop_eq_getElem_cons (show j < vs.length by omega)⟩
  rw [hu]
  rfl

set_option maxHeartbeats 400000 in
/-- markIntS on a slice that is owned: it holds running numbers, nothing else has changed. -/
theorem markIntS_any (lo : Nat) (a : Option Addr) (len cap : Nat) (vs : List Value) (k : Int) (w : World) (hown : w.ownsRow lo 3 1 (.slice a len cap) len vs) (hs : len ≤ 1099511627776) (hk0 : 0 ≤ k) (hk : k ≤ 1099511627776) :
    Calls Tryz.prog 12 #[.slice a len cap, .int .i64 k] w fun e w' => e = .returned (.int .i64 (k + len)) ∧ w'.ownsRow lo 3 1 (.slice a len cap) len ((run k len).map (Value.int .i64)) ∧ w.grownBy w' (Value.slice a len cap).ownBlock := by
  rcases hown.2 with ⟨hv, hl0⟩ | ⟨g, cap', cur, hv, _⟩
  · simp only [Value.slice.injEq] at hv
    obtain ⟨rfl, rfl, rfl⟩ := hv
    go_enter Tryz.func12, Tryz.ntmps12
    go_wp2
    refine wp_loop_rounds 1 ?_
    rw [rounds_succ]
    go_wp2
    go_ret
    exact ⟨ret_int (by simp), World.ownsRow_nil w lo 3 1, World.grownBy.refl _ _⟩
  · simp only [Value.slice.injEq] at hv
    obtain ⟨rfl, _, rfl⟩ := hv
    have hvl : vs.length = len := by simpa using hown.1
    go_enter Tryz.func12, Tryz.ntmps12
    go_wp2
    go_loopw [1, 5] (fun q i wr => ∃ j : Nat, j ≤ len ∧ i = .int .i64 j ∧ q = .int .i64 (k + j) ∧ wr.ownsRow lo 3 1 (.slice (some ⟨g, 0, none⟩) len cap) len ((run k j).map (Value.int .i64) ++ vs.drop j) ∧ w.grownBy wr (some g)) (fun _ i _ => len - (intOf i).toNat)
    case atStart => exact ⟨0, Nat.zero_le _, rfl, by simp, by simpa [run] using hown, World.grownBy.refl _ _⟩
    case round =>
      obtain ⟨j, hj, rfl, rfl, hownr, hg⟩ := hrel
      by_cases hlt : j < len
      · have hfz := hownr.frozenAt j
        have hcl : ∃ u, wr.cell? ⟨g, j, none⟩ = some u := by
          rw [hownr.cellAt j (by omega)]
          exact ⟨_, List.getElem?_eq_getElem (by rw [List.length_append, List.length_map, run_length, List.length_drop]; omega)⟩
        obtain ⟨u, hcu⟩ := hcl
        have HO := Lib.hid hownr
        have HV := Lib.hid hvl
        clear hownr hvl hown
        go_wp2
        go_roundw
        case rel =>
          refine ⟨j + 1, by omega, by go_num, by congr 1; omega, ?_, hg.trans (HO.out.stored j _).2⟩
          rw [← mark_next hlt HV.out]
          have := (HO.out.stored j (.int .i64 (k + j))).1
          simpa using this
        case measure => simp [intOf]; omega
      · obtain rfl : j = len := by omega
        have HO := Lib.hid hownr
        have HV := Lib.hid hvl
        clear hownr hvl hown
        go_wp2
        go_ret
        refine ⟨rfl, ?_, hg⟩
        have := HO.out
        rw [List.drop_of_length_le (by have := HV.out; omega), List.append_nil] at this
        exact this

set_option maxHeartbeats 400000 in
theorem heldIntS_any (a : Option Addr) (len cap : Nat) (k : Int) (w : World) (hin : IntsRd w a len (run k len)) (hs : len ≤ 1099511627776) (hk0 : 0 ≤ k) (hk : k ≤ 1099511627776) :
    Calls Tryz.prog 13 #[.slice a len cap, .int .i64 k] w fun e w' => e = .returned (.int .i64 (k + len)) ∧ w = w' := by
  go_enter Tryz.func13, Tryz.ntmps13
  go_wp2
  go_loop [1, 5] (fun q i => ∃ j : Nat, j ≤ len ∧ i = .int .i64 j ∧ q = .int .i64 (k + j)) (fun _ i => len - (intOf i).toNat)
  case atStart => exact ⟨0, Nat.zero_le _, rfl, by simp⟩
  case round =>
    obtain ⟨j, hj, rfl, rfl⟩ := hrel
    by_cases hlt : j < len
    · obtain ⟨b, off, x, rfl, hx, hc⟩ := hin.place hlt
      rw [run_get _ _ _ hlt] at hx
      obtain rfl := Option.some.inj hx
      have hne : (k + (j : Int) != k + (j : Int)) = false := by simp
      clear hx
      go_wp2
      go_round
      case rel => exact ⟨j + 1, by omega, by go_num, by congr 1; omega⟩
      case measure => simp [intOf]; omega
    · obtain rfl : j = len := by omega
      go_wp2
      go_ret
      exact ⟨rfl, rfl⟩

/-! ### slices of slices -/

end Go.Proofs.YtonlidgmfmgcmaaGreat

/-
  The reference's l7Insert puts a number into a sorted list unless it is there: the walk.
-/
namespace Go.Proofs.YtonlidgmfmgcmaaGreat
open Go.RowKit

def insAt (xs : List Int) (x : Int) : Nat := (xs.takeWhile (fun y => decide (y < x))).length
/-- What l7Insert returns. -/
def ins (xs : List Int) (x : Int) : List Int := if xs[insAt xs x]? = some x then xs else xs.take (insAt xs x) ++ x :: xs.drop (insAt xs x)

theorem insAt_of (xs : List Int) (x : Int) (k : Nat) (h1 : ∀ j y, j < k → xs[j]? = some y → y < x) (hk : k ≤ xs.length) (h2 : ∀ y, xs[k]? = some y → ¬ y < x) : insAt xs x = k := by
  induction xs generalizing k with
  | nil => simp at hk; subst hk; rfl
  | cons z zs ih =>
    cases k with
    | zero =>
      have := h2 z (by simp)
      simp [insAt, this]
    | succ k =>
      have hz := h1 0 z (by omega) (by simp)
      have := ih k (fun j y hj hy => h1 (j + 1) y (by omega) (by simpa using hy)) (by simpa using hk) (fun y hy => h2 y (by simpa using hy))
      simp only [insAt, List.takeWhile_cons, hz, decide_true, if_true, List.length_cons] at this ⊢
      omega
theorem ins_same (xs : List Int) (x : Int) (k : Nat) (h1 : ∀ j y, j < k → xs[j]? = some y → y < x) (h2 : xs[k]? = some x) : ins xs x = xs := by
  have hk : k < xs.length := (List.getElem?_eq_some_iff.1 h2).1
  have := insAt_of xs x k h1 (by omega) (fun y hy => by rw [h2] at hy; cases hy; omega)
  rw [ins, this, if_pos h2]
theorem ins_new (xs : List Int) (x : Int) (k : Nat) (h1 : ∀ j y, j < k → xs[j]? = some y → y < x) (hk : k ≤ xs.length) (h2 : ∀ y, xs[k]? = some y → x < y) : ins xs x = xs.take k ++ x :: xs.drop k := by
  have := insAt_of xs x k h1 hk (fun y hy => by have := h2 y hy; omega)
  rw [ins, this, if_neg]
  intro h
  have := h2 x h
  omega
theorem ins_length_le (xs : List Int) (x : Int) : (ins xs x).length ≤ xs.length + 1 := by
  unfold ins
  split
  · omega
  · have : insAt xs x ≤ xs.length := (List.takeWhile_prefix _).length_le
    simp; omega

/-- The call returned a slice that reads as these ints; nothing that was there has changed. -/
def ReadInts (w : World) (xs : List Int) (e : Ending) (w' : World) : Prop :=
  ∃ a cap, e = .returned (.slice a xs.length cap) ∧ IntsAt w' a xs.length cap xs ∧ Below w.heap.size w w'

theorem new_end {xs : List Int} {x : Int} {w w3 : World} {a3 : Option Addr} {c3 k n len : Nat} (hl : xs.length = len) (hk : k ≤ len) (hnew : ins xs x = xs.take k ++ x :: xs.drop k) (hn : n = k + 1 + (len - k))
    (hown3 : w3.ownsRow w.heap.size 3 1 (.slice a3 n c3) n (((xs.take k).map (Value.int .i64) ++ [x].map (Value.int .i64)) ++ (xs.drop k).map (Value.int .i64)))
    (hb3 : Below w.heap.size w w3) : ReadInts w (ins xs x) (.returned (.slice a3 n c3)) w3 := by
  rw [hnew]
  have hlen : n = (xs.take k ++ x :: xs.drop k).length := by simp; omega
  rw [hlen] at hown3 ⊢
  exact ⟨_, _, rfl, ints_of_own (by simpa using hown3), hb3⟩

end Go.Proofs.YtonlidgmfmgcmaaGreat

/-
  The library's slices.Index and Contains over ints: the walks.
-/
namespace Go.Proofs.YtonlidgmfmgcmaaGreat
open Go.RowKit

/-! ### ints -/
/-- The index of the first element that is x, or -1. -/
def idxInt (x : Int) : List Int → Int
  | [] => -1
  | y :: ys => if y = x then 0 else if idxInt x ys < 0 then -1 else idxInt x ys + 1
theorem idxInt_none {x : Int} : ∀ {ys : List Int}, (∀ y ∈ ys, y ≠ x) → idxInt x ys = -1
  | [], _ => rfl
  | y :: ys, h => by
    have h1 := h y (by simp)
    have h2 := idxInt_none (ys := ys) (fun z hz => h z (by simp [hz]))
    simp [idxInt, h1, h2]
theorem idxInt_some {x : Int} : ∀ {ys : List Int} {k : Nat}, (∀ j y, j < k → ys[j]? = some y → y ≠ x) → ys[k]? = some x → idxInt x ys = k
  | [], _, _, h => by simp at h
  | y :: ys, 0, _, h => by simp at h; subst h; simp [idxInt]
  | y :: ys, k + 1, h, hx => by
    have h1 := h 0 y (by omega) (by simp)
    have h2 := idxInt_some (ys := ys) (k := k) (fun j z hj hz => h (j + 1) z (by omega) (by simpa using hz)) (by simpa using hx)
    simp only [idxInt, h1, h2, if_false]
    rw [if_neg (by omega)]
    omega
theorem idxInt_nonneg {x : Int} : ∀ ys : List Int, decide (0 ≤ idxInt x ys) = decide (x ∈ ys)
  | [] => by simp [idxInt]
  | y :: ys => by
    have ih := idxInt_nonneg (x := x) ys
    simp only [decide_eq_decide] at ih ⊢
    by_cases hp : y = x
    · simp [idxInt, hp]
    · have hp' : ¬ x = y := fun h => hp h.symm
      simp only [idxInt, hp, if_false, List.mem_cons, hp', false_or, ← ih]
      by_cases h : idxInt x ys < 0
      · simp [h]
      · simp [h]; omega

set_option maxHeartbeats 400000 in
theorem index_any (a : Option Addr) (len cap : Nat) (xs : List Int) (x : Int) (w : World) (hin : IntsRd w a len xs) (hs : len ≤ 1099511627776) :
    Calls Tryz.prog 31 #[.slice a len cap, .int .i64 x] w fun e w' => e = .returned (.int .i64 (idxInt x xs)) ∧ w = w' := by
  have HL := Lib.hid hin.length
  go_enter Tryz.func31, Tryz.ntmps31
  go_wp2
  go_loop [8] (fun i => ∃ k : Nat, k ≤ len ∧ i = .int .i64 k ∧ Hid (∀ j y, j < k → xs[j]? = some y → y ≠ x)) (fun i => len - (intOf i).toNat)
  case atStart => exact ⟨0, Nat.zero_le _, rfl, Lib.hid (fun j x hj => by omega)⟩
  case round =>
    obtain ⟨k, hk, rfl, hno⟩ := hrel
    by_cases hlt : k < len
    · obtain ⟨b, off, y, rfl, hy, hc⟩ := hin.place hlt
      have HY := Lib.hid hy
      clear hy
      by_cases hyx : y = x
      · subst hyx
        have ht : (y == y) = true := by simp
        have HI := Lib.hid (idxInt_some hno.out HY.out)
        go_wp2
        go_ret
        exact ⟨ret_int HI.out.symm, rfl⟩
      · have ht : (x == y) = false := by simp; exact fun h => hyx h.symm
        have HN := Lib.hid hyx
        clear hyx
        go_wp2
        go_round
        case rel =>
          refine ⟨k + 1, by omega, by go_num, Lib.hid fun j z hj hjz => ?_⟩
          by_cases hjk : j = k
          · subst hjk
            rw [HY.out] at hjz
            cases hjz
            exact HN.out
          · exact hno.out j z (by omega) hjz
        case measure => simp [intOf]; omega
    · obtain rfl : k = len := by omega
      go_wp2
      go_ret
      refine ⟨ret_int ?_, rfl⟩
      rw [idxInt_none]
      intro y hy
      obtain ⟨j, hj⟩ := List.getElem?_of_mem hy
      exact hno.out j y (by have := (List.getElem?_eq_some_iff.1 hj).1; have := HL.out; omega) hj

theorem contains_any (a : Option Addr) (len cap : Nat) (xs : List Int) (x : Int) (w : World) (hin : IntsRd w a len xs) (hs : len ≤ 1099511627776) :
    Calls Tryz.prog 91 #[.slice a len cap, .int .i64 x] w fun e w' => e = .returned (.bool (decide (x ∈ xs))) ∧ w = w' := by
  have HI := Lib.hid (idxInt_nonneg (x := x) xs)
  go_enter Tryz.func91, Tryz.ntmps91
  go_wp2_with fail
  refine (index_any a len cap xs x w hin hs).mono ?_
  rintro e w1 ⟨rfl, rfl⟩
  go_wp2
  go_ret
  exact ⟨ret_bool HI.out, rfl⟩

end Go.Proofs.YtonlidgmfmgcmaaGreat
