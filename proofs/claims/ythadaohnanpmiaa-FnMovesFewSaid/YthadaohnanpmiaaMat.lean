/-
  Slices of slices of ints: what it means that one reads as a list of rows, or is owned; the walks of the laws' helpers on them (sizes, copies, comparison, marks).
-/
import Derived.Test.YthadaohnanpmiaaApp
namespace Go.Proofs.Ythadaohnanpmiaa
open Go.RowKit

/-- w' is w but for new blocks and the blocks in S. -/
structure Turned (S : Nat → Prop) (w w' : World) : Prop where
  os : w'.os = w.os
  tape : w'.tape = w.tape
  output : w'.output = w.output
  size : w.heap.size ≤ w'.heap.size
  block : ∀ k, k < w.heap.size → ¬ S k → w'.heap[k]? = w.heap[k]?
theorem Turned.refl (S : Nat → Prop) (w : World) : Turned S w w := ⟨rfl, rfl, rfl, Nat.le_refl _, fun _ _ _ => rfl⟩
theorem Turned.trans {S : Nat → Prop} {a b c : World} (h : Turned S a b) (k : Turned S b c) : Turned S a c :=
  ⟨k.os.trans h.os, k.tape.trans h.tape, k.output.trans h.output, Nat.le_trans h.size k.size, fun i hi hn => (k.block i (Nat.lt_of_lt_of_le hi h.size) hn).trans (h.block i hi hn)⟩
theorem Turned.mono {S T : Nat → Prop} {w w' : World} (h : Turned S w w') (hST : ∀ k, S k → T k) : Turned T w w' :=
  ⟨h.os, h.tape, h.output, h.size, fun k hk hn => h.block k hk (fun hs => hn (hST k hs))⟩
theorem turned_of_grown {w w' : World} {row : Option Nat} (h : w.grownBy w' row) {S : Nat → Prop} (hS : ∀ k, row = some k → S k) : Turned S w w' :=
  ⟨h.os, h.tape, h.output, h.size, fun k hk hn => h.block k hk (fun e => hn (hS k e.symm))⟩
theorem turned_of_below {B : Nat} {w w' : World} (h : Below B w w') {S : Nat → Prop} (hS : ∀ k, B ≤ k → k < w.heap.size → S k) : Turned S w w' :=
  ⟨h.os, h.tape, h.output, h.size, fun k hk hn => h.block k (by
    rcases Nat.lt_or_ge k B with h | h
    · exact h
    · exact absurd (hS k h hk) hn)⟩
theorem Turned.below {S : Nat → Prop} {w w' : World} (h : Turned S w w') {B : Nat} (hB : B ≤ w.heap.size) (hS : ∀ k, S k → B ≤ k) : Below B w w' :=
  ⟨h.os, h.tape, h.output, h.size, fun k hk => h.block k (by omega) (fun hs => by have := hS k hs; omega)⟩
theorem own_turned {S : Nat → Prop} {w w' : World} {base : Nat} {e : TypeId} {size : Nat} {v : Value} {n : Nat} {xs : List Value} (h : w.ownsRow base e size v n xs) (ht : Turned S w w')
    (hS : ∀ k, v.ownBlock = some k → ¬ S k) : w'.ownsRow base e size v n xs := by
  refine ⟨h.1, ?_⟩
  rcases h.2 with hn | ⟨g, cap, cur, rfl, hbg, hgg, rest⟩
  · exact .inl hn
  · exact .inr ⟨g, cap, cur, rfl, hbg, by rw [ht.block g (Array.getElem?_eq_some_iff.1 hgg).1 (hS g rfl)]; exact hgg, rest⟩
theorem own_lower {w : World} {base base' : Nat} {e : TypeId} {size : Nat} {v : Value} {n : Nat} {xs : List Value} (h : w.ownsRow base e size v n xs) (hb : ∀ k, v.ownBlock = some k → base' ≤ k) : w.ownsRow base' e size v n xs := by
  refine ⟨h.1, ?_⟩
  rcases h.2 with hn | ⟨g, cap, cur, rfl, hbg, hgg, rest⟩
  · exact .inl hn
  · exact .inr ⟨g, cap, cur, rfl, hb g rfl, hgg, rest⟩

/-- One row of ints: where it lies, its capacity, the ints. -/
structure Hd where
  a : Option Addr
  cap : Nat
  xs : List Int
def Hd.val (h : Hd) : Value := .slice h.a h.xs.length h.cap

/-- A slice of slices reads as these rows. -/
structure MatRd (w : World) (a : Option Addr) (len : Nat) (rs : List Hd) : Prop where
  length : rs.length = len
  row : RowAt w a (rs.map Hd.val)
  rows : ∀ r ∈ rs, IntsRd w r.a r.xs.length r.xs
/-- The same, and all can be cut. -/
structure MatAt (w : World) (a : Option Addr) (len cap : Nat) (rs : List Hd) : Prop extends MatRd w a len rs where
  le : len ≤ cap
  max : cap ≤ maxLen
  addr : (a = none ∧ cap = 0) ∨ ∃ b off, a = some ⟨b, off, none⟩
  rows' : ∀ r ∈ rs, IntsAt w r.a r.xs.length r.cap r.xs

theorem MatRd.later {w w' : World} {a : Option Addr} {len : Nat} {rows : List Hd} (h : MatRd w a len rows) (hb : Below w.heap.size w w') : MatRd w' a len rows :=
  ⟨h.length, h.row.later hb, fun r hr => (h.rows r hr).later hb⟩
theorem MatAt.later {w w' : World} {a : Option Addr} {len cap : Nat} {rows : List Hd} (h : MatAt w a len cap rows) (hb : Below w.heap.size w w') : MatAt w' a len cap rows :=
  ⟨h.toMatRd.later hb, h.le, h.max, h.addr, fun r hr => (h.rows' r hr).later hb⟩
theorem MatRd.place {w : World} {a : Option Addr} {len : Nat} {rows : List Hd} (h : MatRd w a len rows) {i : Nat} (hi : i < len) :
    ∃ b off ai ci xs, a = some ⟨b, off, none⟩ ∧ rows[i]? = some ⟨ai, ci, xs⟩ ∧ w.cell? ⟨b, off + i, none⟩ = some (.slice ai xs.length ci) ∧ IntsRd w ai xs.length xs := by
  have hl := h.length
  rcases h.row with h0 | ⟨b, off, rfl, hc⟩
  · have : rows = [] := by simpa using h0
    subst this; simp at hl; omega
  · have hx : rows[i]? = some (rows[i]'(by omega)) := List.getElem?_eq_getElem _
    exact ⟨b, off, _, _, _, rfl, hx, hc i _ (by rw [List.getElem?_map, hx]; rfl), h.rows _ (List.getElem_mem _)⟩

/-- A slice of slices that was made by the call: all its blocks lie in [lo, hi), and no two of its rows share memory. -/
structure MatOwn (w : World) (lo hi : Nat) (a : Option Addr) (len cap : Nat) (rs : List Hd) : Prop where
  own : w.ownsRow lo 22 1 (.slice a len cap) len (rs.map Hd.val)
  ownHi : ∀ k, (Value.slice a len cap).ownBlock = some k → k < hi
  rows : ∀ r ∈ rs, w.ownsRow lo 3 1 r.val r.xs.length (r.xs.map (Value.int .i64))
  rowsHi : ∀ r ∈ rs, ∀ k, r.val.ownBlock = some k → k < hi
  apart : (rs.filterMap (·.val.ownBlock)).Nodup

theorem MatOwn.at {w : World} {lo hi : Nat} {a : Option Addr} {len cap : Nat} {rows : List Hd} (h : MatOwn w lo hi a len cap rows) : MatAt w a len cap rows :=
  ⟨⟨by have := h.own.1; simpa using this, rowAt_of_own h.own, fun r hr => (ints_of_own (h.rows r hr)).toIntsRd⟩, (own_cap h.own).1, (own_cap h.own).2, own_addr h.own, fun r hr => ints_of_own (h.rows r hr)⟩
theorem MatOwn.turned {S : Nat → Prop} {w w' : World} {lo hi : Nat} {a : Option Addr} {len cap : Nat} {rows : List Hd} (h : MatOwn w lo hi a len cap rows) (ht : Turned S w w') (hS : ∀ k, S k → k < lo ∨ hi ≤ k) : MatOwn w' lo hi a len cap rows :=
  ⟨own_turned h.own ht (fun k hk hs => by have h1 := (h.own.lt k hk).1; have h2 := h.ownHi k hk; have := hS k hs; omega), h.ownHi,
    fun r hr => own_turned (h.rows r hr) ht (fun k hk hs => by have h1 := ((h.rows r hr).lt k hk).1; have h2 := h.rowsHi r hr k hk; have := hS k hs; omega), h.rowsHi, h.apart⟩
theorem MatOwn.below {w w' : World} {lo hi : Nat} {a : Option Addr} {len cap : Nat} {rows : List Hd} (h : MatOwn w lo hi a len cap rows) (hb : Below w.heap.size w w') : MatOwn w' lo hi a len cap rows :=
  h.turned (S := fun k => w.heap.size ≤ k ∧ hi ≤ k) (turned_of_below hb (fun k hk hk' => by omega)) (fun k hk => .inr hk.2)

def total (rows : List Hd) : Nat := (rows.map (fun r => r.xs.length)).sum
theorem total_snoc (rows : List Hd) (r : Hd) : total (rows ++ [r]) = total rows + r.xs.length := by simp [total]
theorem total_take (rows : List Hd) (k : Nat) : total (rows.take k) ≤ total rows := by
  have : total rows = total (rows.take k) + total (rows.drop k) := by rw [total, total, total, ← List.sum_append, ← List.map_append, List.take_append_drop]
  omega

/-! ### sizes -/
theorem szIntS_any (a : Option Addr) (len cap : Nat) (left : Int) (w : World) (h0 : 0 ≤ left) (h1 : left ≤ 1048576) (hl : len ≤ 9223372036854775807) :
    Calls Try.prog 55 #[.slice a len cap, .int .i64 left] w fun e w' => e = .returned (.int .i64 (if left < len then -1 else left - len)) ∧ w = w' := by
  by_cases h : left < len
  · rw [if_pos h]
    go_enter Try.func55, Try.ntmps55
    go_wp2
    go_ret
    exact ⟨rfl, rfl⟩
  · rw [if_neg h]
    go_enter Try.func55, Try.ntmps55
    go_wp2
    go_ret
    exact ⟨rfl, rfl⟩

/-- The size is within what was left, or the answer is -1. -/
def Sized (left : Int) (tot : Nat) (e : Ending) : Prop := (left < tot ∧ e = .returned (.int .i64 (-1))) ∨ (tot ≤ left ∧ e = .returned (.int .i64 (left - tot)))

set_option maxHeartbeats 400000 in
theorem szIntSS_any (a : Option Addr) (len cap : Nat) (rows : List Hd) (left : Int) (w : World) (hin : MatRd w a len rows) (h0 : 0 ≤ left) (h1 : left ≤ 1048576) (hl : len ≤ 9223372036854775807) (hrl : ∀ r ∈ rows, r.xs.length ≤ 9223372036854775807) :
    Calls Try.prog 27 #[.slice a len cap, .int .i64 left] w fun e w' => Sized left (len + total rows) e ∧ w = w' := by
  by_cases h : left < len
  · go_enter Try.func27, Try.ntmps27
    go_wp2
    go_ret
    exact ⟨.inl ⟨by omega, rfl⟩, rfl⟩
  · go_enter Try.func27, Try.ntmps27
    go_wp2
    go_loop [1, 5] (fun l i => ∃ k : Nat, k ≤ len ∧ i = .int .i64 k ∧ ∃ L : Int, l = .int .i64 L ∧ 0 ≤ L ∧ L + len + total (rows.take k) ≤ left ∧ left ≤ L + len + total (rows.take k)) (fun _ i => len - (intOf i).toNat)
    case atStart => exact ⟨0, Nat.zero_le _, rfl, _, rfl, by omega, by simp [total], by simp [total]⟩
    case round =>
      obtain ⟨k, hk, rfl, L, rfl, hL0, hL1, hL2⟩ := hrel
      by_cases hlt : k < len
      · obtain ⟨b, off, ai, ci, xs, rfl, hx, hc, hi⟩ := hin.place hlt
        have hxl : xs.length ≤ 9223372036854775807 := hrl _ (List.mem_of_getElem? hx)
        have hts : total (rows.take (k + 1)) = total (rows.take k) + xs.length := by rw [take_succ_of hx, total_snoc]
        have htl := total_take rows (k + 1)
        have HT := Lib.hid hts
        clear hx hts
        by_cases hbad : L < (xs.length : Int)
        · have hco := szIntS_any ai xs.length ci L w hL0 (by omega) hxl
          rw [if_pos hbad] at hco
          have HC := Lib.hid hco
          clear hco
          go_wp2_with fail
          refine HC.out.mono ?_
          rintro e w' ⟨rfl, rfl⟩
          go_wp2
          go_ret
          exact ⟨.inl ⟨by have := HT.out; omega, rfl⟩, rfl⟩
        · have hco := szIntS_any ai xs.length ci L w hL0 (by omega) hxl
          rw [if_neg hbad] at hco
          have HC := Lib.hid hco
          clear hco
          go_wp2_with fail
          refine HC.out.mono ?_
          rintro e w' ⟨rfl, rfl⟩
          go_wp2
          go_round
          case rel => exact ⟨k + 1, by omega, by go_num, _, rfl, by omega, by have := HT.out; omega, by have := HT.out; omega⟩
          case measure => simp [intOf]; omega
      · obtain rfl : k = len := by omega
        have hl2 := hin.length
        have HL := Lib.hid hl2
        clear hl2
        go_wp2
        go_ret
        rw [List.take_of_length_le (by have := HL.out; omega)] at hL1 hL2
        exact ⟨.inr ⟨by omega, ret_int (by omega)⟩, rfl⟩

/-! ### comparison -/
theorem eqIntSS_quiet (a a' : Option Addr) (len cap cap' : Nat) (rows rows' : List Hd) (w : World) (hin : MatRd w a len rows) (hin' : MatRd w a' len rows') (hsame : rows.map Hd.xs = rows'.map Hd.xs) (hs : len ≤ 1099511627776) (hrl : ∀ r ∈ rows, r.xs.length ≤ 1099511627776) :
    Calls Try.prog 29 #[.slice a len cap, .slice a' len cap'] w fun e w' => e = .returned (.bool true) ∧ ∃ m, w' = w.drewN m := by
  have hne : ((len : Int) != (len : Int)) = false := by simp
  have HS := Lib.hid hsame
  clear hsame
  go_enter Try.func29, Try.ntmps29
  go_wp2
  go_loopw [5] (fun i wr => ∃ k : Nat, k ≤ len ∧ i = .int .i64 k ∧ Hid (∃ m, wr = w.drewN m)) (fun i _ => len - (intOf i).toNat)
  case atStart => exact ⟨0, Nat.zero_le _, rfl, Lib.hid ⟨0, rfl⟩⟩
  case round =>
    obtain ⟨k, hk, rfl, hq⟩ := hrel
    have hinr : MatRd wr a len rows := by obtain ⟨m, rfl⟩ := hq.out; exact ⟨hin.length, hin.row, fun r hr => ⟨(hin.rows r hr).length, (hin.rows r hr).row⟩⟩
    have hinr' : MatRd wr a' len rows' := by obtain ⟨m, rfl⟩ := hq.out; exact ⟨hin'.length, hin'.row, fun r hr => ⟨(hin'.rows r hr).length, (hin'.rows r hr).row⟩⟩
    by_cases hlt : k < len
    · obtain ⟨b, off, ai, ci, xs, rfl, hx, hc, hi⟩ := hinr.place hlt
      obtain ⟨b', off', ai', ci', xs', rfl, hx', hc', hi'⟩ := hinr'.place hlt
      obtain rfl : xs' = xs := by
        have h1 : (rows.map Hd.xs)[k]? = some xs := by rw [List.getElem?_map, hx]; rfl
        have h2 : (rows'.map Hd.xs)[k]? = some xs' := by rw [List.getElem?_map, hx']; rfl
        rw [HS.out, h2] at h1
        exact Option.some.inj h1
      have hxl : xs'.length ≤ 1099511627776 := hrl _ (List.mem_of_getElem? hx)
      clear hx hx' hne
      have hq2 := fun n => eqIntS_quiet ai ai' xs'.length ci ci' xs' (wr.drewN n) ⟨hi.length, hi.row⟩ ⟨hi'.length, hi'.row⟩ hxl
      have HQ := Lib.hid hq2
      clear hq2
      go_wp2
      go_quiet (exact Calls.quiet_of (HQ.out _))
      go_wp2
      go_roundw
      case rel => exact ⟨k + 1, by omega, by go_num, Lib.hid (by obtain ⟨m, hm⟩ := hq.out; exact ⟨m + nq, by rw [hm, World.drewN_drewN]⟩)⟩
      case measure => simp [intOf]; omega
    · go_wp2
      go_ret
      exact ⟨rfl, hq.out⟩

end Go.Proofs.Ythadaohnanpmiaa
