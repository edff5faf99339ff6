
/-
  The data of the group Unit: what it means that cells read as such a datum; the laws' sizes of them.
-/
import Derived.Test.YtonlidgmfmgcmaaGreatCore
import Derived.Test.YtonlidgmfmgcmaaGreatBase
namespace Go.Proofs.YtonlidgmfmgcmaaGreat
open Go.RowKit

structure PhiD where
  to : Int
  args : List Int
def PhiR (w : World) (cs : List Value) (x : PhiD) : Prop := ∃ args_a args_c, cs = [.int .i64 x.to, .slice args_a x.args.length args_c] ∧ ((x.args.length ≤ maxLen ∧ (args_a = none → args_c = 0)) ∧ IntsRd w args_a x.args.length x.args)
def szPhiD (x : PhiD) : Nat := x.args.length
theorem phiR_lasts : Lasts PhiR := by
  rintro w w' cs x hb ⟨args_a, args_c, rfl, ⟨args_m, args_r⟩⟩
  exact ⟨args_a, args_c, rfl, ⟨args_m, args_r.later hb⟩⟩
theorem phi_place {w : World} {a : Option Addr} {len : Nat} {xs : List PhiD} (h : SliceRd 2 PhiR w a len xs) {i : Nat} (hi : i < len) :
    ∃ b off to args args_a args_c, a = some ⟨b, off, none⟩ ∧ xs[i]? = some (⟨to, args⟩ : PhiD) ∧ w.cell? ⟨b, off + i * 2, none⟩ = some (.int .i64 to) ∧ w.cell? ⟨b, off + i * 2 + 1, none⟩ = some (.slice args_a args.length args_c) ∧ PhiR w [.int .i64 to, .slice args_a args.length args_c] ⟨to, args⟩ := by
  obtain ⟨b, off, cs, x, rfl, hx, _, hc, hr⟩ := h.place (by decide) hi
  have hr0 := hr
  obtain ⟨args_a, args_c, rfl, _⟩ := hr
  obtain ⟨to, args⟩ := x
  exact ⟨b, off, to, args, args_a, args_c, rfl, hx, hc 0 _ rfl, hc 1 _ rfl, hr0⟩
structure InsD where
  op : Int
  to : Int
  args : List Int
  num : Int
def InsR (w : World) (cs : List Value) (x : InsD) : Prop := ∃ args_a args_c, cs = [.int .i64 x.op, .int .i64 x.to, .slice args_a x.args.length args_c, .int .i64 x.num] ∧ ((x.args.length ≤ maxLen ∧ (args_a = none → args_c = 0)) ∧ IntsRd w args_a x.args.length x.args)
def szInsD (x : InsD) : Nat := x.args.length
theorem insR_lasts : Lasts InsR := by
  rintro w w' cs x hb ⟨args_a, args_c, rfl, ⟨args_m, args_r⟩⟩
  exact ⟨args_a, args_c, rfl, ⟨args_m, args_r.later hb⟩⟩
theorem ins_place {w : World} {a : Option Addr} {len : Nat} {xs : List InsD} (h : SliceRd 4 InsR w a len xs) {i : Nat} (hi : i < len) :
    ∃ b off op to args num args_a args_c, a = some ⟨b, off, none⟩ ∧ xs[i]? = some (⟨op, to, args, num⟩ : InsD) ∧ w.cell? ⟨b, off + i * 4, none⟩ = some (.int .i64 op) ∧ w.cell? ⟨b, off + i * 4 + 1, none⟩ = some (.int .i64 to) ∧ w.cell? ⟨b, off + i * 4 + 2, none⟩ = some (.slice args_a args.length args_c) ∧ w.cell? ⟨b, off + i * 4 + 3, none⟩ = some (.int .i64 num) ∧ InsR w [.int .i64 op, .int .i64 to, .slice args_a args.length args_c, .int .i64 num] ⟨op, to, args, num⟩ := by
  obtain ⟨b, off, cs, x, rfl, hx, _, hc, hr⟩ := h.place (by decide) hi
  have hr0 := hr
  obtain ⟨args_a, args_c, rfl, _⟩ := hr
  obtain ⟨op, to, args, num⟩ := x
  exact ⟨b, off, op, to, args, num, args_a, args_c, rfl, hx, hc 0 _ rfl, hc 1 _ rfl, hc 2 _ rfl, hc 3 _ rfl, hr0⟩
structure BlockD where
  phis : List PhiD
  ins : List InsD
  jump : Int
  jon : Int
  nx : List Int
def BlockR (w : World) (cs : List Value) (x : BlockD) : Prop := ∃ phis_a phis_c ins_a ins_c nx_a nx_c, cs = [.slice phis_a x.phis.length phis_c, .slice ins_a x.ins.length ins_c, .int .i64 x.jump, .int .i64 x.jon, .slice nx_a x.nx.length nx_c] ∧ ((x.phis.length ≤ maxLen ∧ (phis_a = none → phis_c = 0)) ∧ SliceRd 2 PhiR w phis_a x.phis.length x.phis) ∧ ((x.ins.length ≤ maxLen ∧ (ins_a = none → ins_c = 0)) ∧ SliceRd 4 InsR w ins_a x.ins.length x.ins) ∧ ((x.nx.length ≤ maxLen ∧ (nx_a = none → nx_c = 0)) ∧ IntsRd w nx_a x.nx.length x.nx)
def szBlockD (x : BlockD) : Nat := szS szPhiD x.phis + szS szInsD x.ins + x.nx.length
theorem blockR_lasts : Lasts BlockR := by
  rintro w w' cs x hb ⟨phis_a, phis_c, ins_a, ins_c, nx_a, nx_c, rfl, ⟨phis_m, phis_r⟩, ⟨ins_m, ins_r⟩, ⟨nx_m, nx_r⟩⟩
  exact ⟨phis_a, phis_c, ins_a, ins_c, nx_a, nx_c, rfl, ⟨phis_m, phis_r.later phiR_lasts hb⟩, ⟨ins_m, ins_r.later insR_lasts hb⟩, ⟨nx_m, nx_r.later hb⟩⟩
theorem block_place {w : World} {a : Option Addr} {len : Nat} {xs : List BlockD} (h : SliceRd 5 BlockR w a len xs) {i : Nat} (hi : i < len) :
    ∃ b off phis ins jump jon nx phis_a phis_c ins_a ins_c nx_a nx_c, a = some ⟨b, off, none⟩ ∧ xs[i]? = some (⟨phis, ins, jump, jon, nx⟩ : BlockD) ∧ w.cell? ⟨b, off + i * 5, none⟩ = some (.slice phis_a phis.length phis_c) ∧ w.cell? ⟨b, off + i * 5 + 1, none⟩ = some (.slice ins_a ins.length ins_c) ∧ w.cell? ⟨b, off + i * 5 + 2, none⟩ = some (.int .i64 jump) ∧ w.cell? ⟨b, off + i * 5 + 3, none⟩ = some (.int .i64 jon) ∧ w.cell? ⟨b, off + i * 5 + 4, none⟩ = some (.slice nx_a nx.length nx_c) ∧ BlockR w [.slice phis_a phis.length phis_c, .slice ins_a ins.length ins_c, .int .i64 jump, .int .i64 jon, .slice nx_a nx.length nx_c] ⟨phis, ins, jump, jon, nx⟩ := by
  obtain ⟨b, off, cs, x, rfl, hx, _, hc, hr⟩ := h.place (by decide) hi
  have hr0 := hr
  obtain ⟨phis_a, phis_c, ins_a, ins_c, nx_a, nx_c, rfl, _⟩ := hr
  obtain ⟨phis, ins, jump, jon, nx⟩ := x
  exact ⟨b, off, phis, ins, jump, jon, nx, phis_a, phis_c, ins_a, ins_c, nx_a, nx_c, rfl, hx, hc 0 _ rfl, hc 1 _ rfl, hc 2 _ rfl, hc 3 _ rfl, hc 4 _ rfl, hr0⟩
structure CodeD where
  params : Int
  regs : Int
  blocks : List BlockD
def CodeR (w : World) (cs : List Value) (x : CodeD) : Prop := ∃ blocks_a blocks_c, cs = [.int .i64 x.params, .int .i64 x.regs, .slice blocks_a x.blocks.length blocks_c] ∧ ((x.blocks.length ≤ maxLen ∧ (blocks_a = none → blocks_c = 0)) ∧ SliceRd 5 BlockR w blocks_a x.blocks.length x.blocks)
def szCodeD (x : CodeD) : Nat := szS szBlockD x.blocks
theorem codeR_lasts : Lasts CodeR := by
  rintro w w' cs x hb ⟨blocks_a, blocks_c, rfl, ⟨blocks_m, blocks_r⟩⟩
  exact ⟨blocks_a, blocks_c, rfl, ⟨blocks_m, blocks_r.later blockR_lasts hb⟩⟩
theorem code_place {w : World} {a : Option Addr} {len : Nat} {xs : List CodeD} (h : SliceRd 3 CodeR w a len xs) {i : Nat} (hi : i < len) :
    ∃ b off params regs blocks blocks_a blocks_c, a = some ⟨b, off, none⟩ ∧ xs[i]? = some (⟨params, regs, blocks⟩ : CodeD) ∧ w.cell? ⟨b, off + i * 3, none⟩ = some (.int .i64 params) ∧ w.cell? ⟨b, off + i * 3 + 1, none⟩ = some (.int .i64 regs) ∧ w.cell? ⟨b, off + i * 3 + 2, none⟩ = some (.slice blocks_a blocks.length blocks_c) ∧ CodeR w [.int .i64 params, .int .i64 regs, .slice blocks_a blocks.length blocks_c] ⟨params, regs, blocks⟩ := by
  obtain ⟨b, off, cs, x, rfl, hx, _, hc, hr⟩ := h.place (by decide) hi
  have hr0 := hr
  obtain ⟨blocks_a, blocks_c, rfl, _⟩ := hr
  obtain ⟨params, regs, blocks⟩ := x
  exact ⟨b, off, params, regs, blocks, blocks_a, blocks_c, rfl, hx, hc 0 _ rfl, hc 1 _ rfl, hc 2 _ rfl, hr0⟩
structure UnitD where
  codes : List CodeD
def UnitR (w : World) (cs : List Value) (x : UnitD) : Prop := ∃ codes_a codes_c, cs = [.slice codes_a x.codes.length codes_c] ∧ ((x.codes.length ≤ maxLen ∧ (codes_a = none → codes_c = 0)) ∧ SliceRd 3 CodeR w codes_a x.codes.length x.codes)
def szUnitD (x : UnitD) : Nat := szS szCodeD x.codes
theorem unitR_lasts : Lasts UnitR := by
  rintro w w' cs x hb ⟨codes_a, codes_c, rfl, ⟨codes_m, codes_r⟩⟩
  exact ⟨codes_a, codes_c, rfl, ⟨codes_m, codes_r.later codeR_lasts hb⟩⟩
theorem unit_place {w : World} {a : Option Addr} {len : Nat} {xs : List UnitD} (h : SliceRd 1 UnitR w a len xs) {i : Nat} (hi : i < len) :
    ∃ b off codes codes_a codes_c, a = some ⟨b, off, none⟩ ∧ xs[i]? = some (⟨codes⟩ : UnitD) ∧ w.cell? ⟨b, off + i * 1, none⟩ = some (.slice codes_a codes.length codes_c) ∧ UnitR w [.slice codes_a codes.length codes_c] ⟨codes⟩ := by
  obtain ⟨b, off, cs, x, rfl, hx, _, hc, hr⟩ := h.place (by decide) hi
  have hr0 := hr
  obtain ⟨codes_a, codes_c, rfl, _⟩ := hr
  obtain ⟨codes⟩ := x
  exact ⟨b, off, codes, codes_a, codes_c, rfl, hx, hc 0 _ rfl, hr0⟩

theorem szIntS_sized (a : Option Addr) (len cap : Nat) (left : Int) (w : World) (h0 : 0 ≤ left) (h1 : left ≤ 1048576) (hl : len ≤ 9223372036854775807) :
    Calls Tryz.prog 96 #[.slice a len cap, .int .i64 left] w fun e w' => SizedD left len e ∧ Below w.heap.size w w' :=
  (szIntS_any a len cap left w h0 h1 hl).mono (by
    rintro e w1 ⟨rfl, rfl⟩
    refine ⟨?_, Below.refl _ _⟩
    by_cases h : left < len
    · rw [if_pos h]; exact .inl ⟨h, rfl⟩
    · rw [if_neg h]; exact .inr ⟨by omega, rfl⟩)
theorem szPhi_any (cs : List Value) (x : PhiD) (left : Int) (w : World) (hR : PhiR w cs x) (h0 : 0 ≤ left) (h1 : left ≤ 1048576) :
    Calls Tryz.prog 104 #[.agg cs.toArray, .int .i64 left] w fun e w' => SizedD left (szPhiD x) e ∧ Below w.heap.size w w' := by
  obtain ⟨args_a, args_c, rfl, ⟨args_m, args_r⟩⟩ := hR
  unfold szPhiD
  obtain ⟨to, args⟩ := x
  have args_m2 : args.length ≤ 9223372036854775807 := Nat.le_trans args_m.1 (by decide)
  have hb0 : Below w.heap.size w (w.alloc (.cells #[.int .i64 to, .slice args_a args.length args_c] 123)) := (Below.refl _ _).alloc (Nat.le_refl _) _
  go_enter Tryz.func104, Tryz.ntmps104
  go_wp2_with fail
  refine (szIntS_sized args_a args.length args_c (left) _ h0 h1 args_m2).mono ?_
  rintro e w1 ⟨hsz0, hb1⟩
  have hc1 := hb0.trans (hb1.mono hb0.size)
  rcases hsz0 with ⟨hsz0, rfl⟩ | ⟨hsz0, rfl⟩
  · go_wp2
    go_ret
    exact ⟨.inl ⟨by omega, rfl⟩, hc1⟩
  · have hn0 : decide (left - ((args.length : Nat) : Int) < 0) = false := decide_eq_false (by omega)
    go_wp2
    go_ret
    exact ⟨.inr ⟨by omega, ret_int (by first | rfl | omega)⟩, hc1⟩
set_option maxHeartbeats 400000 in
theorem szPhiS_any (a : Option Addr) (len cap : Nat) (xs : List PhiD) (left : Int) (w : World) (hin : SliceRd 2 PhiR w a len xs) (h0 : 0 ≤ left) (h1 : left ≤ 1048576) (hl : len ≤ 9223372036854775807) :
    Calls Tryz.prog 94 #[.slice a len cap, .int .i64 left] w fun e w' => SizedD left (szS szPhiD xs) e ∧ Below w.heap.size w w' := by
  have hlen := hin.length
  have hS : szS szPhiD xs = len + sumOf szPhiD xs := by rw [szS, hlen]
  rw [hS]
  have HLEN := Lib.hid hlen
  clear hS hlen
  by_cases h : left < len
  · go_enter Tryz.func94, Tryz.ntmps94
    go_wp2
    go_ret
    exact ⟨.inl ⟨by omega, rfl⟩, Below.refl _ _⟩
  · go_enter Tryz.func94, Tryz.ntmps94
    go_wp2
    go_loopw [1, 5] (fun l i wr => ∃ k : Nat, k ≤ len ∧ i = .int .i64 k ∧ ∃ Lf : Int, l = .int .i64 Lf ∧ 0 ≤ Lf ∧ Lf + len + sumOf szPhiD (xs.take k) = left ∧ Below w.heap.size w wr) (fun _ i _ => len - (intOf i).toNat)
    case atStart => exact ⟨0, Nat.zero_le _, rfl, _, rfl, by omega, by simp [sumOf], Below.refl _ _⟩
    case round =>
      obtain ⟨k, hk, rfl, Lf, rfl, hL0, hL1, hbr⟩ := hrel
      by_cases hlt : k < len
      · obtain ⟨b, off, to, args, args_a, args_c, rfl, hx, c0, c1, hR⟩ := phi_place (hin.later phiR_lasts hbr) hlt
        have hts : sumOf szPhiD (xs.take (k + 1)) = sumOf szPhiD (xs.take k) + szPhiD ⟨to, args⟩ := by rw [take_succ_of hx, sumOf_snoc]
        have htl := sumOf_take szPhiD xs (k + 1)
        have HT := Lib.hid hts
        have HR := Lib.hid hR
        clear hx hts hR
        go_wp2_with fail
        refine (szPhi_any _ ⟨to, args⟩ Lf wr HR.out hL0 (by omega)).mono ?_
        rintro e w1 ⟨hsz, hb1⟩
        have hb01 := hbr.trans (hb1.mono hbr.size)
        clear hb1
        have HSZ := Lib.hid hsz
        generalize hq : szPhiD ⟨to, args⟩ = q at HT HSZ
        have hts := HT.out
        have hsz := HSZ.out
        have HQ := Lib.hid hq
        clear hq HSZ
        rcases hsz with ⟨hsz, rfl⟩ | ⟨hsz, rfl⟩
        · clear hts
          have hres : left < ((len + sumOf szPhiD xs : Nat) : Int) := by have := HT.out; omega
          go_wp2
          go_ret
          exact ⟨.inl ⟨hres, rfl⟩, hb01⟩
        · have hn : decide (Lf - (q : Int) < 0) = false := decide_eq_false (by omega)
          clear hts
          go_wp2
          go_roundw
          case rel => exact ⟨k + 1, by omega, by go_num, _, rfl, by omega, by have := HT.out; omega, hb01⟩
          case measure => simp [intOf]; omega
      · obtain rfl : k = len := by omega
        have hall : sumOf szPhiD (xs.take k) = sumOf szPhiD xs := by rw [List.take_of_length_le (by have := HLEN.out; omega)]
        have HA := Lib.hid hall
        clear hall
        go_wp2
        go_ret
        exact ⟨.inr ⟨by have := HA.out; omega, ret_int (by have := HA.out; omega)⟩, hbr⟩
theorem szIns_any (cs : List Value) (x : InsD) (left : Int) (w : World) (hR : InsR w cs x) (h0 : 0 ≤ left) (h1 : left ≤ 1048576) :
    Calls Tryz.prog 105 #[.agg cs.toArray, .int .i64 left] w fun e w' => SizedD left (szInsD x) e ∧ Below w.heap.size w w' := by
  obtain ⟨args_a, args_c, rfl, ⟨args_m, args_r⟩⟩ := hR
  unfold szInsD
  obtain ⟨op, to, args, num⟩ := x
  have args_m2 : args.length ≤ 9223372036854775807 := Nat.le_trans args_m.1 (by decide)
  have hb0 : Below w.heap.size w (w.alloc (.cells #[.int .i64 op, .int .i64 to, .slice args_a args.length args_c, .int .i64 num] 125)) := (Below.refl _ _).alloc (Nat.le_refl _) _
  go_enter Tryz.func105, Tryz.ntmps105
  go_wp2_with fail
  refine (szIntS_sized args_a args.length args_c (left) _ h0 h1 args_m2).mono ?_
  rintro e w1 ⟨hsz0, hb1⟩
  have hc1 := hb0.trans (hb1.mono hb0.size)
  rcases hsz0 with ⟨hsz0, rfl⟩ | ⟨hsz0, rfl⟩
  · go_wp2
    go_ret
    exact ⟨.inl ⟨by omega, rfl⟩, hc1⟩
  · have hn0 : decide (left - ((args.length : Nat) : Int) < 0) = false := decide_eq_false (by omega)
    go_wp2
    go_ret
    exact ⟨.inr ⟨by omega, ret_int (by first | rfl | omega)⟩, hc1⟩
set_option maxHeartbeats 400000 in
theorem szInsS_any (a : Option Addr) (len cap : Nat) (xs : List InsD) (left : Int) (w : World) (hin : SliceRd 4 InsR w a len xs) (h0 : 0 ≤ left) (h1 : left ≤ 1048576) (hl : len ≤ 9223372036854775807) :
    Calls Tryz.prog 95 #[.slice a len cap, .int .i64 left] w fun e w' => SizedD left (szS szInsD xs) e ∧ Below w.heap.size w w' := by
  have hlen := hin.length
  have hS : szS szInsD xs = len + sumOf szInsD xs := by rw [szS, hlen]
  rw [hS]
  have HLEN := Lib.hid hlen
  clear hS hlen
  by_cases h : left < len
  · go_enter Tryz.func95, Tryz.ntmps95
    go_wp2
    go_ret
    exact ⟨.inl ⟨by omega, rfl⟩, Below.refl _ _⟩
  · go_enter Tryz.func95, Tryz.ntmps95
    go_wp2
    go_loopw [1, 5] (fun l i wr => ∃ k : Nat, k ≤ len ∧ i = .int .i64 k ∧ ∃ Lf : Int, l = .int .i64 Lf ∧ 0 ≤ Lf ∧ Lf + len + sumOf szInsD (xs.take k) = left ∧ Below w.heap.size w wr) (fun _ i _ => len - (intOf i).toNat)
    case atStart => exact ⟨0, Nat.zero_le _, rfl, _, rfl, by omega, by simp [sumOf], Below.refl _ _⟩
    case round =>
      obtain ⟨k, hk, rfl, Lf, rfl, hL0, hL1, hbr⟩ := hrel
      by_cases hlt : k < len
      · obtain ⟨b, off, op, to, args, num, args_a, args_c, rfl, hx, c0, c1, c2, c3, hR⟩ := ins_place (hin.later insR_lasts hbr) hlt
        have hts : sumOf szInsD (xs.take (k + 1)) = sumOf szInsD (xs.take k) + szInsD ⟨op, to, args, num⟩ := by rw [take_succ_of hx, sumOf_snoc]
        have htl := sumOf_take szInsD xs (k + 1)
        have HT := Lib.hid hts
        have HR := Lib.hid hR
        clear hx hts hR
        go_wp2_with fail
        refine (szIns_any _ ⟨op, to, args, num⟩ Lf wr HR.out hL0 (by omega)).mono ?_
        rintro e w1 ⟨hsz, hb1⟩
        have hb01 := hbr.trans (hb1.mono hbr.size)
        clear hb1
        have HSZ := Lib.hid hsz
        generalize hq : szInsD ⟨op, to, args, num⟩ = q at HT HSZ
        have hts := HT.out
        have hsz := HSZ.out
        have HQ := Lib.hid hq
        clear hq HSZ
        rcases hsz with ⟨hsz, rfl⟩ | ⟨hsz, rfl⟩
        · clear hts
          have hres : left < ((len + sumOf szInsD xs : Nat) : Int) := by have := HT.out; omega
          go_wp2
          go_ret
          exact ⟨.inl ⟨hres, rfl⟩, hb01⟩
        · have hn : decide (Lf - (q : Int) < 0) = false := decide_eq_false (by omega)
          clear hts
          go_wp2
          go_roundw
          case rel => exact ⟨k + 1, by omega, by go_num, _, rfl, by omega, by have := HT.out; omega, hb01⟩
          case measure => simp [intOf]; omega
      · obtain rfl : k = len := by omega
        have hall : sumOf szInsD (xs.take k) = sumOf szInsD xs := by rw [List.take_of_length_le (by have := HLEN.out; omega)]
        have HA := Lib.hid hall
        clear hall
        go_wp2
        go_ret
        exact ⟨.inr ⟨by have := HA.out; omega, ret_int (by have := HA.out; omega)⟩, hbr⟩
theorem szBlock_any (cs : List Value) (x : BlockD) (left : Int) (w : World) (hR : BlockR w cs x) (h0 : 0 ≤ left) (h1 : left ≤ 1048576) :
    Calls Tryz.prog 79 #[.agg cs.toArray, .int .i64 left] w fun e w' => SizedD left (szBlockD x) e ∧ Below w.heap.size w w' := by
  obtain ⟨phis_a, phis_c, ins_a, ins_c, nx_a, nx_c, rfl, ⟨phis_m, phis_r⟩, ⟨ins_m, ins_r⟩, ⟨nx_m, nx_r⟩⟩ := hR
  unfold szBlockD
  obtain ⟨phis, ins, jump, jon, nx⟩ := x
  have phis_m2 : phis.length ≤ 9223372036854775807 := Nat.le_trans phis_m.1 (by decide)
  have ins_m2 : ins.length ≤ 9223372036854775807 := Nat.le_trans ins_m.1 (by decide)
  have nx_m2 : nx.length ≤ 9223372036854775807 := Nat.le_trans nx_m.1 (by decide)
  have hb0 : Below w.heap.size w (w.alloc (.cells #[.slice phis_a phis.length phis_c, .slice ins_a ins.length ins_c, .int .i64 jump, .int .i64 jon, .slice nx_a nx.length nx_c] 106)) := (Below.refl _ _).alloc (Nat.le_refl _) _
  go_enter Tryz.func79, Tryz.ntmps79
  go_wp2_with fail
  refine (szPhiS_any phis_a phis.length phis_c phis (left) _ (phis_r.later phiR_lasts hb0) h0 h1 phis_m2).mono ?_
  rintro e w1 ⟨hsz0, hb1⟩
  have hc1 := hb0.trans (hb1.mono hb0.size)
  have he1 : Below (w.heap.size + 1) (w.alloc (.cells #[.slice phis_a phis.length phis_c, .slice ins_a ins.length ins_c, .int .i64 jump, .int .i64 jon, .slice nx_a nx.length nx_c] 106)) w1 := hb1.mono (by simp)
  have hA1 := (he1.block w.heap.size (by omega)).trans (heap_alloc_new w _)
  have hP0_1 := cell_of_row w1 w.heap.size 1 _ _ _ hA1
  simp only [List.getElem?_toArray, List.getElem?_cons_zero, List.getElem?_cons_succ] at hP0_1
  have hP0_4 := cell_of_row w1 w.heap.size 4 _ _ _ hA1
  simp only [List.getElem?_toArray, List.getElem?_cons_zero, List.getElem?_cons_succ] at hP0_4
  clear hA1
  rcases hsz0 with ⟨hsz0, rfl⟩ | ⟨hsz0, rfl⟩
  · go_wp2
    go_ret
    exact ⟨.inl ⟨by omega, rfl⟩, hc1⟩
  · have hn0 : decide (left - ((szS szPhiD phis : Nat) : Int) < 0) = false := decide_eq_false (by omega)
    go_wp2_with fail
    refine (szInsS_any ins_a ins.length ins_c ins (left - ((szS szPhiD phis : Nat) : Int)) _ (ins_r.later insR_lasts hc1) (by omega) (by omega) ins_m2).mono ?_
    rintro e w2 ⟨hsz1, hb2⟩
    have hc2 := hc1.trans (hb2.mono hc1.size)
    have he2 : Below (w.heap.size + 1) (w.alloc (.cells #[.slice phis_a phis.length phis_c, .slice ins_a ins.length ins_c, .int .i64 jump, .int .i64 jon, .slice nx_a nx.length nx_c] 106)) w2 := he1.trans (hb2.mono (by have := he1.size; simp at this; omega))
    have hA2 := (he2.block w.heap.size (by omega)).trans (heap_alloc_new w _)
    have hP1_4 := cell_of_row w2 w.heap.size 4 _ _ _ hA2
    simp only [List.getElem?_toArray, List.getElem?_cons_zero, List.getElem?_cons_succ] at hP1_4
    clear hA2
    rcases hsz1 with ⟨hsz1, rfl⟩ | ⟨hsz1, rfl⟩
    · go_wp2
      go_ret
      exact ⟨.inl ⟨by omega, rfl⟩, hc2⟩
    · have hn1 : decide (left - ((szS szPhiD phis : Nat) : Int) - ((szS szInsD ins : Nat) : Int) < 0) = false := decide_eq_false (by omega)
      go_wp2_with fail
      refine (szIntS_sized nx_a nx.length nx_c (left - ((szS szPhiD phis : Nat) : Int) - ((szS szInsD ins : Nat) : Int)) _ (by omega) (by omega) nx_m2).mono ?_
      rintro e w3 ⟨hsz2, hb3⟩
      have hc3 := hc2.trans (hb3.mono hc2.size)
      rcases hsz2 with ⟨hsz2, rfl⟩ | ⟨hsz2, rfl⟩
      · go_wp2
        go_ret
        exact ⟨.inl ⟨by omega, rfl⟩, hc3⟩
      · have hn2 : decide (left - ((szS szPhiD phis : Nat) : Int) - ((szS szInsD ins : Nat) : Int) - ((nx.length : Nat) : Int) < 0) = false := decide_eq_false (by omega)
        go_wp2
        go_ret
        exact ⟨.inr ⟨by omega, ret_int (by first | rfl | omega)⟩, hc3⟩
set_option maxHeartbeats 400000 in
theorem szBlockS_any (a : Option Addr) (len cap : Nat) (xs : List BlockD) (left : Int) (w : World) (hin : SliceRd 5 BlockR w a len xs) (h0 : 0 ≤ left) (h1 : left ≤ 1048576) (hl : len ≤ 9223372036854775807) :
    Calls Tryz.prog 52 #[.slice a len cap, .int .i64 left] w fun e w' => SizedD left (szS szBlockD xs) e ∧ Below w.heap.size w w' := by
  have hlen := hin.length
  have hS : szS szBlockD xs = len + sumOf szBlockD xs := by rw [szS, hlen]
  rw [hS]
  have HLEN := Lib.hid hlen
  clear hS hlen
  by_cases h : left < len
  · go_enter Tryz.func52, Tryz.ntmps52
    go_wp2
    go_ret
    exact ⟨.inl ⟨by omega, rfl⟩, Below.refl _ _⟩
  · go_enter Tryz.func52, Tryz.ntmps52
    go_wp2
    go_loopw [1, 5] (fun l i wr => ∃ k : Nat, k ≤ len ∧ i = .int .i64 k ∧ ∃ Lf : Int, l = .int .i64 Lf ∧ 0 ≤ Lf ∧ Lf + len + sumOf szBlockD (xs.take k) = left ∧ Below w.heap.size w wr) (fun _ i _ => len - (intOf i).toNat)
    case atStart => exact ⟨0, Nat.zero_le _, rfl, _, rfl, by omega, by simp [sumOf], Below.refl _ _⟩
    case round =>
      obtain ⟨k, hk, rfl, Lf, rfl, hL0, hL1, hbr⟩ := hrel
      by_cases hlt : k < len
      · obtain ⟨b, off, phis, ins, jump, jon, nx, phis_a, phis_c, ins_a, ins_c, nx_a, nx_c, rfl, hx, c0, c1, c2, c3, c4, hR⟩ := block_place (hin.later blockR_lasts hbr) hlt
        have hts : sumOf szBlockD (xs.take (k + 1)) = sumOf szBlockD (xs.take k) + szBlockD ⟨phis, ins, jump, jon, nx⟩ := by rw [take_succ_of hx, sumOf_snoc]
        have htl := sumOf_take szBlockD xs (k + 1)
        have HT := Lib.hid hts
        have HR := Lib.hid hR
        clear hx hts hR
        go_wp2_with fail
        refine (szBlock_any _ ⟨phis, ins, jump, jon, nx⟩ Lf wr HR.out hL0 (by omega)).mono ?_
        rintro e w1 ⟨hsz, hb1⟩
        have hb01 := hbr.trans (hb1.mono hbr.size)
        clear hb1
        have HSZ := Lib.hid hsz
        generalize hq : szBlockD ⟨phis, ins, jump, jon, nx⟩ = q at HT HSZ
        have hts := HT.out
        have hsz := HSZ.out
        have HQ := Lib.hid hq
        clear hq HSZ
        rcases hsz with ⟨hsz, rfl⟩ | ⟨hsz, rfl⟩
        · clear hts
          have hres : left < ((len + sumOf szBlockD xs : Nat) : Int) := by have := HT.out; omega
          go_wp2
          go_ret
          exact ⟨.inl ⟨hres, rfl⟩, hb01⟩
        · have hn : decide (Lf - (q : Int) < 0) = false := decide_eq_false (by omega)
          clear hts
          go_wp2
          go_roundw
          case rel => exact ⟨k + 1, by omega, by go_num, _, rfl, by omega, by have := HT.out; omega, hb01⟩
          case measure => simp [intOf]; omega
      · obtain rfl : k = len := by omega
        have hall : sumOf szBlockD (xs.take k) = sumOf szBlockD xs := by rw [List.take_of_length_le (by have := HLEN.out; omega)]
        have HA := Lib.hid hall
        clear hall
        go_wp2
        go_ret
        exact ⟨.inr ⟨by have := HA.out; omega, ret_int (by have := HA.out; omega)⟩, hbr⟩
theorem szCode_any (cs : List Value) (x : CodeD) (left : Int) (w : World) (hR : CodeR w cs x) (h0 : 0 ≤ left) (h1 : left ≤ 1048576) :
    Calls Tryz.prog 33 #[.agg cs.toArray, .int .i64 left] w fun e w' => SizedD left (szCodeD x) e ∧ Below w.heap.size w w' := by
  obtain ⟨blocks_a, blocks_c, rfl, ⟨blocks_m, blocks_r⟩⟩ := hR
  unfold szCodeD
  obtain ⟨params, regs, blocks⟩ := x
  have blocks_m2 : blocks.length ≤ 9223372036854775807 := Nat.le_trans blocks_m.1 (by decide)
  have hb0 : Below w.heap.size w (w.alloc (.cells #[.int .i64 params, .int .i64 regs, .slice blocks_a blocks.length blocks_c] 64)) := (Below.refl _ _).alloc (Nat.le_refl _) _
  go_enter Tryz.func33, Tryz.ntmps33
  go_wp2_with fail
  refine (szBlockS_any blocks_a blocks.length blocks_c blocks (left) _ (blocks_r.later blockR_lasts hb0) h0 h1 blocks_m2).mono ?_
  rintro e w1 ⟨hsz0, hb1⟩
  have hc1 := hb0.trans (hb1.mono hb0.size)
  rcases hsz0 with ⟨hsz0, rfl⟩ | ⟨hsz0, rfl⟩
  · go_wp2
    go_ret
    exact ⟨.inl ⟨by omega, rfl⟩, hc1⟩
  · have hn0 : decide (left - ((szS szBlockD blocks : Nat) : Int) < 0) = false := decide_eq_false (by omega)
    go_wp2
    go_ret
    exact ⟨.inr ⟨by omega, ret_int (by first | rfl | omega)⟩, hc1⟩
set_option maxHeartbeats 400000 in
theorem szCodeS_any (a : Option Addr) (len cap : Nat) (xs : List CodeD) (left : Int) (w : World) (hin : SliceRd 3 CodeR w a len xs) (h0 : 0 ≤ left) (h1 : left ≤ 1048576) (hl : len ≤ 9223372036854775807) :
    Calls Tryz.prog 17 #[.slice a len cap, .int .i64 left] w fun e w' => SizedD left (szS szCodeD xs) e ∧ Below w.heap.size w w' := by
  have hlen := hin.length
  have hS : szS szCodeD xs = len + sumOf szCodeD xs := by rw [szS, hlen]
  rw [hS]
  have HLEN := Lib.hid hlen
  clear hS hlen
  by_cases h : left < len
  · go_enter Tryz.func17, Tryz.ntmps17
    go_wp2
    go_ret
    exact ⟨.inl ⟨by omega, rfl⟩, Below.refl _ _⟩
  · go_enter Tryz.func17, Tryz.ntmps17
    go_wp2
    go_loopw [1, 5] (fun l i wr => ∃ k : Nat, k ≤ len ∧ i = .int .i64 k ∧ ∃ Lf : Int, l = .int .i64 Lf ∧ 0 ≤ Lf ∧ Lf + len + sumOf szCodeD (xs.take k) = left ∧ Below w.heap.size w wr) (fun _ i _ => len - (intOf i).toNat)
    case atStart => exact ⟨0, Nat.zero_le _, rfl, _, rfl, by omega, by simp [sumOf], Below.refl _ _⟩
    case round =>
      obtain ⟨k, hk, rfl, Lf, rfl, hL0, hL1, hbr⟩ := hrel
      by_cases hlt : k < len
      · obtain ⟨b, off, params, regs, blocks, blocks_a, blocks_c, rfl, hx, c0, c1, c2, hR⟩ := code_place (hin.later codeR_lasts hbr) hlt
        have hts : sumOf szCodeD (xs.take (k + 1)) = sumOf szCodeD (xs.take k) + szCodeD ⟨params, regs, blocks⟩ := by rw [take_succ_of hx, sumOf_snoc]
        have htl := sumOf_take szCodeD xs (k + 1)
        have HT := Lib.hid hts
        have HR := Lib.hid hR
        clear hx hts hR
        go_wp2_with fail
        refine (szCode_any _ ⟨params, regs, blocks⟩ Lf wr HR.out hL0 (by omega)).mono ?_
        rintro e w1 ⟨hsz, hb1⟩
        have hb01 := hbr.trans (hb1.mono hbr.size)
        clear hb1
        have HSZ := Lib.hid hsz
        generalize hq : szCodeD ⟨params, regs, blocks⟩ = q at HT HSZ
        have hts := HT.out
        have hsz := HSZ.out
        have HQ := Lib.hid hq
        clear hq HSZ
        rcases hsz with ⟨hsz, rfl⟩ | ⟨hsz, rfl⟩
        · clear hts
          have hres : left < ((len + sumOf szCodeD xs : Nat) : Int) := by have := HT.out; omega
          go_wp2
          go_ret
          exact ⟨.inl ⟨hres, rfl⟩, hb01⟩
        · have hn : decide (Lf - (q : Int) < 0) = false := decide_eq_false (by omega)
          clear hts
          go_wp2
          go_roundw
          case rel => exact ⟨k + 1, by omega, by go_num, _, rfl, by omega, by have := HT.out; omega, hb01⟩
          case measure => simp [intOf]; omega
      · obtain rfl : k = len := by omega
        have hall : sumOf szCodeD (xs.take k) = sumOf szCodeD xs := by rw [List.take_of_length_le (by have := HLEN.out; omega)]
        have HA := Lib.hid hall
        clear hall
        go_wp2
        go_ret
        exact ⟨.inr ⟨by have := HA.out; omega, ret_int (by have := HA.out; omega)⟩, hbr⟩
theorem szUnit_any (cs : List Value) (x : UnitD) (left : Int) (w : World) (hR : UnitR w cs x) (h0 : 0 ≤ left) (h1 : left ≤ 1048576) :
    Calls Tryz.prog 5 #[.agg cs.toArray, .int .i64 left] w fun e w' => SizedD left (szUnitD x) e ∧ Below w.heap.size w w' := by
  obtain ⟨codes_a, codes_c, rfl, ⟨codes_m, codes_r⟩⟩ := hR
  unfold szUnitD
  obtain ⟨codes⟩ := x
  have codes_m2 : codes.length ≤ 9223372036854775807 := Nat.le_trans codes_m.1 (by decide)
  have hb0 : Below w.heap.size w (w.alloc (.cells #[.slice codes_a codes.length codes_c] 24)) := (Below.refl _ _).alloc (Nat.le_refl _) _
  go_enter Tryz.func5, Tryz.ntmps5
  go_wp2_with fail
  refine (szCodeS_any codes_a codes.length codes_c codes (left) _ (codes_r.later codeR_lasts hb0) h0 h1 codes_m2).mono ?_
  rintro e w1 ⟨hsz0, hb1⟩
  have hc1 := hb0.trans (hb1.mono hb0.size)
  rcases hsz0 with ⟨hsz0, rfl⟩ | ⟨hsz0, rfl⟩
  · go_wp2
    go_ret
    exact ⟨.inl ⟨by omega, rfl⟩, hc1⟩
  · have hn0 : decide (left - ((szS szCodeD codes : Nat) : Int) < 0) = false := decide_eq_false (by omega)
    go_wp2
    go_ret
    exact ⟨.inr ⟨by omega, ret_int (by first | rfl | omega)⟩, hc1⟩

end Go.Proofs.YtonlidgmfmgcmaaGreat
