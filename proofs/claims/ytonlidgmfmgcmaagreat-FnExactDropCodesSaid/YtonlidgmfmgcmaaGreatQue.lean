
/-
  A list of numbers that is cut at its front and appended to: what the call owns of it.
-/
import Derived.Test.YtonlidgmfmgcmaaGreatCore
import Derived.Test.YtonlidgmfmgcmaaGreatBase
import Derived.ArgAppend
namespace Go.Proofs.YtonlidgmfmgcmaaGreat
open Go.RowKit

structure QueAt (w : World) (base : Nat) (a : Option Addr) (n cap : Nat) (xs : List Int) : Prop where
  len : xs.length = n
  le : n ≤ cap
  max : cap ≤ maxLen
  blk : ∃ g off cur, a = some ⟨g, off, none⟩ ∧ base ≤ g ∧ w.heap[g]? = some (.cells cur 3 (0, 0)) ∧ off + cap ≤ cur.size ∧ ∀ i x, xs[i]? = some x → cur[off + i]? = some (.int .i64 x)
theorem QueAt.later {w w' : World} {base : Nat} {a : Option Addr} {n cap : Nat} {xs : List Int} (h : QueAt w base a n cap xs) (hb : Below w.heap.size w w') : QueAt w' base a n cap xs := by
  obtain ⟨h1, h2, h3, g, off, cur, h4, h5, h6, h7⟩ := h
  exact ⟨h1, h2, h3, g, off, cur, h4, h5, (hb.block _ (Array.getElem?_eq_some_iff.1 h6).1).trans h6, h7⟩
theorem QueAt.of_own {w : World} {base g n cap : Nat} {xs : List Int} (h : w.ownsRow base 3 1 (.slice (some ⟨g, 0, none⟩) n cap) n (xs.map (Value.int .i64))) : QueAt w base (some ⟨g, 0, none⟩) n cap xs := by
  rcases h.2 with ⟨h0, _⟩ | ⟨g', cap', cur, e, hbg, hgg, hnc, hcm, hcs, htake⟩
  · cases h0
  · cases e
    have hl : xs.length = n := by have := h.1; simpa using this
    refine ⟨hl, hnc, hcm, g, 0, cur, rfl, hbg, hgg, by omega, fun i x hx => ?_⟩
    have h1 : (cur.toList.take (n * 1))[i]? = some (Value.int .i64 x) := by rw [htake, List.getElem?_map, hx]; rfl
    rw [List.getElem?_take] at h1
    split at h1
    · rw [Nat.zero_add]; simpa using h1
    · cases h1
theorem QueAt.rd {w : World} {base : Nat} {a : Option Addr} {n cap : Nat} {xs : List Int} (h : QueAt w base a n cap xs) : IntsRd w a n xs := by
  obtain ⟨h1, h2, h3, g, off, cur, rfl, h5, h6, h7, h8⟩ := h
  refine ⟨h1, .inr ⟨g, off, rfl, fun i v hv => ?_⟩⟩
  rw [cell_of_row w g (off + i) _ _ _ h6]
  rw [List.getElem?_map] at hv
  cases hx : xs[i]? with
  | none => rw [hx] at hv; cases hv
  | some x => rw [hx] at hv; rw [h8 i x hx]; exact hv
/-- The first number away. -/
theorem QueAt.tail {w : World} {base g off n cap : Nat} {x : Int} {xs : List Int} (h : QueAt w base (some ⟨g, off, none⟩) (n + 1) cap (x :: xs)) :
    QueAt w base (if cap = 1 then some ⟨g, off, none⟩ else some ⟨g, off + 1, none⟩) n (cap - 1) xs := by
  obtain ⟨h1, h2, h3, g', off', cur, e, h5, h6, h7, h8⟩ := h
  cases e
  have hl : xs.length = n := by simpa using h1
  by_cases hc : cap = 1
  · subst hc
    rw [if_pos rfl]
    obtain rfl : n = 0 := by omega
    obtain rfl : xs = [] := List.length_eq_zero_iff.1 hl
    exact ⟨rfl, by omega, by omega, g, off, cur, rfl, h5, h6, by omega, fun i y hy => by simp at hy⟩
  · rw [if_neg hc]
    refine ⟨hl, by omega, by omega, g, off + 1, cur, rfl, h5, h6, by omega, fun i y hy => ?_⟩
    have := h8 (i + 1) y (by simpa using hy)
    rw [show off + 1 + i = off + (i + 1) by omega]
    exact this
theorem grown_setCells {w : World} {g : Nat} (vs : List Value) (o : Nat) : w.grownBy (w.setCells g o vs) (some g) := by
  have h := turned_setCells (g := g) vs w o
  exact ⟨h.1, h.2, h.3, h.4, fun k hk hne => h.5 k hk (fun e => hne (by rw [e]))⟩

theorem run_append_que {w : World} {base g off n cap : Nat} {xs : List Int} (hq : QueAt w base (some ⟨g, off, none⟩) n cap xs) (ty : TypeId) (ad : Addr) (m c : Nat) (ys : List Int) (hl : ys.length = m)
    (hrow : RowAt w (some ad) (ys.map (Value.int .i64))) (hb : n + m ≤ 4398046511104) (hbase : base ≤ w.heap.size) :
    ∃ g' off' c' w', (Builtin.append_ #[26, 26] ty #[.slice (some ⟨g, off, none⟩) n cap, .slice (some ad) m c]).run Tryz.prog w = .ok (.slice (some ⟨g', off', none⟩) (n + m) c') w' ∧
      QueAt w' base (some ⟨g', off', none⟩) (n + m) c' (xs ++ ys) ∧ w.grownBy w' (some g) ∧ (g' = g ∨ w.heap.size ≤ g') := by
  obtain ⟨i0, hi, hz0, hz1, hz2⟩ := info_parts info_int
  obtain ⟨h1, h2, h3, g', off', cur, e, h5, h6, h7, h8⟩ := hq
  cases e
  have hnew := hrow.cells
  have hll : (ys.map (Value.int .i64)).length = m * i0.size := by rw [List.length_map, hl, hz1, Nat.mul_one]
  have hcell : ∀ j, w.cell? ⟨g, j, none⟩ = cur[j]? := fun j => cell_of_row w g j _ _ _ h6
  by_cases hr : n + m ≤ cap
  · have hrun := run_append_room_cells (P := Tryz.prog) w 26 ty 3 i0 und_ints hi g off n cap ad m c (ys.map (Value.int .i64)) hll hnew (oneCell_ints _) hr
      (fun j hj => by
        rw [hcell, hz1, Nat.mul_one]
        rw [List.length_map, hl] at hj
        rw [Array.getElem?_eq_getElem (by omega)]; rfl)
      (fun j _ => frozen_of_row w g _ _ _ h6)
    rw [hz1, Nat.mul_one] at hrun
    refine ⟨g, off, cap, _, hrun, ⟨by simp [h1, hl], hr, h3, g, off, ?_⟩, grown_setCells _ _, .inl rfl⟩
    have hcut : cur.toList = cur.toList.take (off + n) ++ (cur.toList.drop (off + n)).take m ++ (cur.toList.drop (off + n)).drop m := by
      rw [List.append_assoc, List.take_append_drop, List.take_append_drop]
    have hmid := heap_setCells_mid (vs := ys.map (Value.int .i64)) (w := w) (g := g) (t := 3) (A := cur.toList.take (off + n)) (B := (cur.toList.drop (off + n)).take m) (C := (cur.toList.drop (off + n)).drop m) (o := off + n)
      (by rw [List.length_take, Array.length_toList]; omega) (by rw [List.length_take, List.length_drop, Array.length_toList, List.length_map, hl]; omega) (by rw [← hcut]; exact h6)
    refine ⟨_, rfl, h5, hmid, ?_, fun i x hx => ?_⟩
    · simp only [List.size_toArray, List.length_append, List.length_take, List.length_drop, Array.length_toList, List.length_map, hl]
      omega
    · rw [List.getElem?_toArray, List.append_assoc]
      have hAl : (cur.toList.take (off + n)).length = off + n := by rw [List.length_take, Array.length_toList]; omega
      rw [List.getElem?_append] at hx
      split at hx
      · rename_i hin
        rw [List.getElem?_append_left (by rw [hAl]; omega), List.getElem?_take, if_pos (by omega)]
        have := h8 i x hx
        simpa using this
      · rename_i hin
        rw [List.getElem?_append_right (by rw [hAl]; omega), hAl, List.getElem?_append_left (by
          have := (List.getElem?_eq_some_iff.1 hx).1
          rw [List.length_map]; omega), List.getElem?_map, show off + i - (off + n) = i - xs.length by omega, hx]
        rfl
  · obtain ⟨v', w', hrun, hown, hg⟩ := run_append_arg_grows (P := Tryz.prog) w 26 ty 3 i0 (.int .i64 0) 1 8 und_ints hi hz0 hz1 hz2 rfl (by decide) ⟨g, off, none⟩ n cap (xs.map (Value.int .i64)) (by rw [List.length_map, h1, Nat.mul_one])
      (fun j u hj => by
        rw [Addr.add_lit, hcell]
        rw [List.getElem?_map] at hj
        cases hx : xs[j]? with
        | none => rw [hx] at hj; cases hj
        | some x => rw [hx] at hj; rw [h8 j x hx]; exact hj) ad m c (ys.map (Value.int .i64)) (by rw [List.length_map, hl, Nat.mul_one]) hnew (by omega) (by unfold maxLen; omega) (by omega)
    rcases hown.2 with ⟨rfl, h0⟩ | ⟨g', cap', cur', rfl, hrest⟩
    · omega
    · refine ⟨g', 0, cap', w', hrun, ?_, ⟨hg.os, hg.tape, hg.output, hg.size, fun k hk _ => hg.block k hk (by simp)⟩, .inr hrest.1⟩
      have hq := QueAt.of_own (xs := xs ++ ys) (by rw [List.map_append]; exact hown)
      obtain ⟨q1, q2, q3, q4, q5, q6, q7, q8, q9⟩ := hq
      exact ⟨q1, q2, q3, q4, q5, q6, q7, Nat.le_trans hbase q8, q9⟩

section
variable {w : World} {ops : Array Oper} {rest : List Oper} {o : Oper} {a : Act} {Q : Exit → Act → World → Prop}
theorem app_que (hgd : o.guard = none) (s x : Operand) (ho : o.op = .call { callee := .builtin .append, args := #[s, x], argTypes := #[26, 26] })
    {base g off n cap : Nat} {xs : List Int} (hs : a.eval s = .slice (some ⟨g, off, none⟩) n cap) (hq : QueAt w base (some ⟨g, off, none⟩) n cap xs)
    (ao : Option Addr) (m c : Nat) (ys : List Int) (hx : a.eval x = .slice ao m c) (hl : ys.length = m) (hrow : RowAt w ao (ys.map (Value.int .i64))) (hnil : ao = none → c = 0)
    (hb : n + m ≤ 4398046511104) (hbase : base ≤ w.heap.size)
    (h : ∀ g' off' c' w', QueAt w' base (some ⟨g', off', none⟩) (n + m) c' (xs ++ ys) → w.grownBy w' (some g) → (g' = g ∨ w.heap.size ≤ g') → wpList Tryz.prog ops Q rest (a.put o.dst (.slice (some ⟨g', off', none⟩) (n + m) c')) w') : wpList Tryz.prog ops Q (o :: rest) a w := by
  refine wpList_plain hgd fun K hK => ?_
  cases ao with
  | some ad =>
    obtain ⟨g', off', c', w', hr, h2, h3, h4⟩ := run_append_que hq o.type ad m c ys hl hrow hb hbase
    unfold Oper.wp execOp
    simp only [ho, resolve, invoke, builtin, Sem.run_bind, Sem.run_pure, Result.andThen_ok, List.map_toArray, List.map_cons, List.map_nil, hs, hx, hr]
    exact hK _ _ (h g' off' c' w' h2 h3 h4)
  | none =>
    obtain rfl : c = 0 := hnil rfl
    have hys : ys = [] := by
      rcases hrow with h | ⟨_, _, h, _⟩
      · simpa using h
      · cases h
    subst hys
    obtain rfl : m = 0 := by simpa using hl.symm
    obtain ⟨i0, hi, hz0, hz1, hz2⟩ := info_parts info_int
    have hle := hq.le
    have hr : (Builtin.append_ #[26, 26] o.type #[.slice (some ⟨g, off, none⟩) n cap, .slice none 0 0]).run Tryz.prog w = .ok (.slice (some ⟨g, off, none⟩) (n + 0) cap) w := by
      have hst := run_storeCells_cells (P := Tryz.prog) g (off + n * i0.size) [] 0 w (by simp) (by simp) (by simp)
      simp only [Nat.add_zero] at hst
      have hw : w.setCells g (off + n * i0.size) [] = w := rfl
      simp [Builtin.append_, run_underlying und_ints, sizeOf, typeInfo, hi, Builtin.lenOf, Builtin.firstCells, hle, Addr.add_lit, hst, hw]
    unfold Oper.wp execOp
    simp only [ho, resolve, invoke, builtin, Sem.run_bind, Sem.run_pure, Result.andThen_ok, List.map_toArray, List.map_cons, List.map_nil, hs, hx, hr]
    exact hK _ _ (h g off cap w (by simpa using hq) (World.grownBy.refl _ _) (.inl rfl))
end

set_option maxHeartbeats 400000 in
theorem l10At_any (a : Option Addr) (len cap : Nat) (xs : List Int) (x : Int) (w : World) (hin : IntsRd w a len xs) (hs : len ≤ 1099511627776) :
    Calls Tryz.prog 27 #[.slice a len cap, .int .i64 x] w fun e w' => e = .returned (.int .i64 (idxInt x xs)) ∧ w = w' := by
  have HL := Lib.hid hin.length
  go_enter Tryz.func27, Tryz.ntmps27
  go_wp2
  go_loop [5] (fun i => ∃ k : Nat, k ≤ len ∧ i = .int .i64 k ∧ Hid (∀ j y, j < k → xs[j]? = some y → y ≠ x)) (fun i => len - (intOf i).toNat)
  case atStart => exact ⟨0, Nat.zero_le _, rfl, Lib.hid (fun j x hj => by omega)⟩
  case round =>
    obtain ⟨k, hk, rfl, hno⟩ := hrel
    by_cases hlt : k < len
    · obtain ⟨b, off, y, rfl, hy, hc⟩ := hin.place hlt
      have HY := Lib.hid hy
      clear hy
      by_cases hyx : y = x
      · subst hyx
        have ht : (y == y) = true := by simp
        have HI := Lib.hid (idxInt_some hno.out HY.out)
        go_wp2
        go_ret
        exact ⟨ret_int HI.out.symm, rfl⟩
      · have ht : (y == x) = false := by simp; exact hyx
        have HN := Lib.hid hyx
        clear hyx
        go_wp2
        go_round
        case rel =>
          refine ⟨k + 1, by omega, by go_num, Lib.hid fun j z hj hjz => ?_⟩
          by_cases hjk : j = k
          · subst hjk
            rw [HY.out] at hjz
            cases hjz
            exact HN.out
          · exact hno.out j z (by omega) hjz
        case measure => simp [intOf]; omega
    · obtain rfl : k = len := by omega
      go_wp2
      go_ret
      refine ⟨ret_int ?_, rfl⟩
      rw [idxInt_none]
      intro y hy
      obtain ⟨j, hj⟩ := List.getElem?_of_mem hy
      exact hno.out j y (by have := (List.getElem?_eq_some_iff.1 hj).1; have := HL.out; omega) hj

end Go.Proofs.YtonlidgmfmgcmaaGreat
