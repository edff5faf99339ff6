
/-
  The data of the group Mach: what it means that cells read as such a datum; the laws' sizes of them.
-/
import Derived.Test.YtdkafajmhgfkoaaDoorCore
namespace Go.Proofs.YtdkafajmhgfkoaaDoor
open Go.RowKit

structure MinsD where
  op : Int
  fa : Int
  fb : Int
  fc : Int
  fn : Int
def MinsR (_ : World) (cs : List Value) (x : MinsD) : Prop := cs = [.int .i64 x.op, .int .i64 x.fa, .int .i64 x.fb, .int .i64 x.fc, .int .i64 x.fn]
def szMinsD (_ : MinsD) : Nat := 0
theorem minsR_lasts : Lasts MinsR := fun _ _ _ _ _ h => h
theorem mins_place {w : World} {a : Option Addr} {len : Nat} {xs : List MinsD} (h : SliceRd 5 MinsR w a len xs) {i : Nat} (hi : i < len) :
    ∃ b off op fa fb fc fn, a = some ⟨b, off, none⟩ ∧ xs[i]? = some (⟨op, fa, fb, fc, fn⟩ : MinsD) ∧ w.cell? ⟨b, off + i * 5, none⟩ = some (.int .i64 op) ∧ w.cell? ⟨b, off + i * 5 + 1, none⟩ = some (.int .i64 fa) ∧ w.cell? ⟨b, off + i * 5 + 2, none⟩ = some (.int .i64 fb) ∧ w.cell? ⟨b, off + i * 5 + 3, none⟩ = some (.int .i64 fc) ∧ w.cell? ⟨b, off + i * 5 + 4, none⟩ = some (.int .i64 fn) ∧ MinsR w [.int .i64 op, .int .i64 fa, .int .i64 fb, .int .i64 fc, .int .i64 fn] ⟨op, fa, fb, fc, fn⟩ := by
  obtain ⟨b, off, cs, x, rfl, hx, _, hc, hr⟩ := h.place (by decide) hi
  have hr0 := hr
  obtain rfl := hr
  obtain ⟨op, fa, fb, fc, fn⟩ := x
  exact ⟨b, off, op, fa, fb, fc, fn, rfl, hx, hc 0 _ rfl, hc 1 _ rfl, hc 2 _ rfl, hc 3 _ rfl, hc 4 _ rfl, hr0⟩
structure MfnD where
  params : Int
  slots : Int
  ins : List MinsD
def MfnR (w : World) (cs : List Value) (x : MfnD) : Prop := ∃ ins_a ins_c, cs = [.int .i64 x.params, .int .i64 x.slots, .slice ins_a x.ins.length ins_c] ∧ ((x.ins.length ≤ maxLen ∧ (ins_a = none → ins_c = 0)) ∧ SliceRd 5 MinsR w ins_a x.ins.length x.ins)
def szMfnD (x : MfnD) : Nat := szS szMinsD x.ins
theorem mfnR_lasts : Lasts MfnR := by
  rintro w w' cs x hb ⟨ins_a, ins_c, rfl, ⟨ins_m, ins_r⟩⟩
  exact ⟨ins_a, ins_c, rfl, ⟨ins_m, ins_r.later minsR_lasts hb⟩⟩
theorem mfn_place {w : World} {a : Option Addr} {len : Nat} {xs : List MfnD} (h : SliceRd 3 MfnR w a len xs) {i : Nat} (hi : i < len) :
    ∃ b off params slots ins ins_a ins_c, a = some ⟨b, off, none⟩ ∧ xs[i]? = some (⟨params, slots, ins⟩ : MfnD) ∧ w.cell? ⟨b, off + i * 3, none⟩ = some (.int .i64 params) ∧ w.cell? ⟨b, off + i * 3 + 1, none⟩ = some (.int .i64 slots) ∧ w.cell? ⟨b, off + i * 3 + 2, none⟩ = some (.slice ins_a ins.length ins_c) ∧ MfnR w [.int .i64 params, .int .i64 slots, .slice ins_a ins.length ins_c] ⟨params, slots, ins⟩ := by
  obtain ⟨b, off, cs, x, rfl, hx, _, hc, hr⟩ := h.place (by decide) hi
  have hr0 := hr
  obtain ⟨ins_a, ins_c, rfl, _⟩ := hr
  obtain ⟨params, slots, ins⟩ := x
  exact ⟨b, off, params, slots, ins, ins_a, ins_c, rfl, hx, hc 0 _ rfl, hc 1 _ rfl, hc 2 _ rfl, hr0⟩
structure MachD where
  fns : List MfnD
def MachR (w : World) (cs : List Value) (x : MachD) : Prop := ∃ fns_a fns_c, cs = [.slice fns_a x.fns.length fns_c] ∧ ((x.fns.length ≤ maxLen ∧ (fns_a = none → fns_c = 0)) ∧ SliceRd 3 MfnR w fns_a x.fns.length x.fns)
def szMachD (x : MachD) : Nat := szS szMfnD x.fns
theorem machR_lasts : Lasts MachR := by
  rintro w w' cs x hb ⟨fns_a, fns_c, rfl, ⟨fns_m, fns_r⟩⟩
  exact ⟨fns_a, fns_c, rfl, ⟨fns_m, fns_r.later mfnR_lasts hb⟩⟩
theorem mach_place {w : World} {a : Option Addr} {len : Nat} {xs : List MachD} (h : SliceRd 1 MachR w a len xs) {i : Nat} (hi : i < len) :
    ∃ b off fns fns_a fns_c, a = some ⟨b, off, none⟩ ∧ xs[i]? = some (⟨fns⟩ : MachD) ∧ w.cell? ⟨b, off + i * 1, none⟩ = some (.slice fns_a fns.length fns_c) ∧ MachR w [.slice fns_a fns.length fns_c] ⟨fns⟩ := by
  obtain ⟨b, off, cs, x, rfl, hx, _, hc, hr⟩ := h.place (by decide) hi
  have hr0 := hr
  obtain ⟨fns_a, fns_c, rfl, _⟩ := hr
  obtain ⟨fns⟩ := x
  exact ⟨b, off, fns, fns_a, fns_c, rfl, hx, hc 0 _ rfl, hr0⟩

theorem szMinsS_any (a : Option Addr) (len cap : Nat) (xs : List MinsD) (left : Int) (w : World) (hxl : xs.length = len) (h0 : 0 ≤ left) (h1 : left ≤ 1048576) (hl : len ≤ 9223372036854775807) :
    Calls Tryd.prog 52 #[.slice a len cap, .int .i64 left] w fun e w' => SizedD left (szS szMinsD xs) e ∧ Below w.heap.size w w' := by
  have hz : szS szMinsD xs = len := by rw [szS_zero (sz := szMinsD) (fun _ => rfl), hxl]
  rw [hz]
  clear hz hxl
  by_cases h : left < len
  · go_enter Tryd.func52, Tryd.ntmps52
    go_wp2
    go_ret
    exact ⟨.inl ⟨h, rfl⟩, Below.refl _ _⟩
  · go_enter Tryd.func52, Tryd.ntmps52
    go_wp2
    go_ret
    exact ⟨.inr ⟨by omega, rfl⟩, Below.refl _ _⟩
theorem szMfn_any (cs : List Value) (x : MfnD) (left : Int) (w : World) (hR : MfnR w cs x) (h0 : 0 ≤ left) (h1 : left ≤ 1048576) :
    Calls Tryd.prog 45 #[.agg cs.toArray, .int .i64 left] w fun e w' => SizedD left (szMfnD x) e ∧ Below w.heap.size w w' := by
  obtain ⟨ins_a, ins_c, rfl, ⟨ins_m, ins_r⟩⟩ := hR
  unfold szMfnD
  obtain ⟨params, slots, ins⟩ := x
  have ins_m2 : ins.length ≤ 9223372036854775807 := Nat.le_trans ins_m.1 (by decide)
  have hb0 : Below w.heap.size w (w.alloc (.cells #[.int .i64 params, .int .i64 slots, .slice ins_a ins.length ins_c] 86)) := (Below.refl _ _).alloc (Nat.le_refl _) _
  go_enter Tryd.func45, Tryd.ntmps45
  go_wp2_with fail
  refine (szMinsS_any ins_a ins.length ins_c ins (left) _ (ins_r.later minsR_lasts hb0).length h0 h1 ins_m2).mono ?_
  rintro e w1 ⟨hsz0, hb1⟩
  have hc1 := hb0.trans (hb1.mono hb0.size)
  rcases hsz0 with ⟨hsz0, rfl⟩ | ⟨hsz0, rfl⟩
  · go_wp2
    go_ret
    exact ⟨.inl ⟨by omega, rfl⟩, hc1⟩
  · have hn0 : decide (left - ((szS szMinsD ins : Nat) : Int) < 0) = false := decide_eq_false (by omega)
    go_wp2
    go_ret
    exact ⟨.inr ⟨by omega, ret_int (by first | rfl | omega)⟩, hc1⟩
set_option maxHeartbeats 400000 in
theorem szMfnS_any (a : Option Addr) (len cap : Nat) (xs : List MfnD) (left : Int) (w : World) (hin : SliceRd 3 MfnR w a len xs) (h0 : 0 ≤ left) (h1 : left ≤ 1048576) (hl : len ≤ 9223372036854775807) :
    Calls Tryd.prog 28 #[.slice a len cap, .int .i64 left] w fun e w' => SizedD left (szS szMfnD xs) e ∧ Below w.heap.size w w' := by
  have hlen := hin.length
  have hS : szS szMfnD xs = len + sumOf szMfnD xs := by rw [szS, hlen]
  rw [hS]
  have HLEN := Lib.hid hlen
  clear hS hlen
  by_cases h : left < len
  · go_enter Tryd.func28, Tryd.ntmps28
    go_wp2
    go_ret
    exact ⟨.inl ⟨by omega, rfl⟩, Below.refl _ _⟩
  · go_enter Tryd.func28, Tryd.ntmps28
    go_wp2
    go_loopw [1, 5] (fun l i wr => ∃ k : Nat, k ≤ len ∧ i = .int .i64 k ∧ ∃ Lf : Int, l = .int .i64 Lf ∧ 0 ≤ Lf ∧ Lf + len + sumOf szMfnD (xs.take k) = left ∧ Below w.heap.size w wr) (fun _ i _ => len - (intOf i).toNat)
    case atStart => exact ⟨0, Nat.zero_le _, rfl, _, rfl, by omega, by simp [sumOf], Below.refl _ _⟩
    case round =>
      obtain ⟨k, hk, rfl, Lf, rfl, hL0, hL1, hbr⟩ := hrel
      by_cases hlt : k < len
      · obtain ⟨b, off, params, slots, ins, ins_a, ins_c, rfl, hx, c0, c1, c2, hR⟩ := mfn_place (hin.later mfnR_lasts hbr) hlt
        have hts : sumOf szMfnD (xs.take (k + 1)) = sumOf szMfnD (xs.take k) + szMfnD ⟨params, slots, ins⟩ := by rw [take_succ_of hx, sumOf_snoc]
        have htl := sumOf_take szMfnD xs (k + 1)
        have HT := Lib.hid hts
        have HR := Lib.hid hR
        clear hx hts hR
        go_wp2_with fail
        refine (szMfn_any _ ⟨params, slots, ins⟩ Lf wr HR.out hL0 (by omega)).mono ?_
        rintro e w1 ⟨hsz, hb1⟩
        have hb01 := hbr.trans (hb1.mono hbr.size)
        clear hb1
        have HSZ := Lib.hid hsz
        generalize hq : szMfnD ⟨params, slots, ins⟩ = q at HT HSZ
        have hts := HT.out
        have hsz := HSZ.out
        have HQ := Lib.hid hq
        clear hq HSZ
        rcases hsz with ⟨hsz, rfl⟩ | ⟨hsz, rfl⟩
        · clear hts
          have hres : left < ((len + sumOf szMfnD xs : Nat) : Int) := by have := HT.out; omega
          go_wp2
          go_ret
          exact ⟨.inl ⟨hres, rfl⟩, hb01⟩
        · have hn : decide (Lf - (q : Int) < 0) = false := decide_eq_false (by omega)
          clear hts
          go_wp2
          go_roundw
          case rel => exact ⟨k + 1, by omega, by go_num, _, rfl, by omega, by have := HT.out; omega, hb01⟩
          case measure => simp [intOf]; omega
      · obtain rfl : k = len := by omega
        have hall : sumOf szMfnD (xs.take k) = sumOf szMfnD xs := by rw [List.take_of_length_le (by have := HLEN.out; omega)]
        have HA := Lib.hid hall
        clear hall
        go_wp2
        go_ret
        exact ⟨.inr ⟨by have := HA.out; omega, ret_int (by have := HA.out; omega)⟩, hbr⟩
theorem szMach_any (cs : List Value) (x : MachD) (left : Int) (w : World) (hR : MachR w cs x) (h0 : 0 ≤ left) (h1 : left ≤ 1048576) :
    Calls Tryd.prog 14 #[.agg cs.toArray, .int .i64 left] w fun e w' => SizedD left (szMachD x) e ∧ Below w.heap.size w w' := by
  obtain ⟨fns_a, fns_c, rfl, ⟨fns_m, fns_r⟩⟩ := hR
  unfold szMachD
  obtain ⟨fns⟩ := x
  have fns_m2 : fns.length ≤ 9223372036854775807 := Nat.le_trans fns_m.1 (by decide)
  have hb0 : Below w.heap.size w (w.alloc (.cells #[.slice fns_a fns.length fns_c] 35)) := (Below.refl _ _).alloc (Nat.le_refl _) _
  go_enter Tryd.func14, Tryd.ntmps14
  go_wp2_with fail
  refine (szMfnS_any fns_a fns.length fns_c fns (left) _ (fns_r.later mfnR_lasts hb0) h0 h1 fns_m2).mono ?_
  rintro e w1 ⟨hsz0, hb1⟩
  have hc1 := hb0.trans (hb1.mono hb0.size)
  rcases hsz0 with ⟨hsz0, rfl⟩ | ⟨hsz0, rfl⟩
  · go_wp2
    go_ret
    exact ⟨.inl ⟨by omega, rfl⟩, hc1⟩
  · have hn0 : decide (left - ((szS szMfnD fns : Nat) : Int) < 0) = false := decide_eq_false (by omega)
    go_wp2
    go_ret
    exact ⟨.inr ⟨by omega, ret_int (by first | rfl | omega)⟩, hc1⟩

end Go.Proofs.YtdkafajmhgfkoaaDoor
