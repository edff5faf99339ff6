
/-
  The laws' size of an expression, copy, comparison.
-/
import Derived.Test.YtccfbnhlhjlmgaaDoorEs2
import Derived.Test.YtccfbnhlhjlmgaaDoorBase
import Derived.StillTailTactics
namespace Go.Proofs.YtccfbnhlhjlmgaaDoor
open Go.RowKit

/-- What an expression weighs. -/
def szE : Nat → ExprD → Nat
  | 0, _ => 0
  | d + 1, e => e.name.size + szS (szE d) e.kids

/-- The size of an expression, at most so deep, is taken. -/
def SzAt (d : Nat) : Prop := ∀ (cs : List Value) (x : ExprD) (left : Int) (w : World), ExprAt d w cs x → anyE longP d x = false → 0 ≤ left → left ≤ 1048576 →
    Calls Tryd.prog 40 #[.agg cs.toArray, .int .i64 left] w fun e w' => SizedD left (szE d x) e ∧ Below w.heap.size w w'
set_option maxHeartbeats 800000 in
theorem szExprS_any (d : Nat) (hd : SzAt d) (a : Option Addr) (len cap : Nat) (xs : List ExprD) (left : Int) (w : World) (hin : SliceRd 4 (ExprAt d) w a len xs) (hN : ∀ k ∈ xs, anyE longP d k = false) (h0 : 0 ≤ left) (h1 : left ≤ 1048576) (hl : len ≤ 9223372036854775807) :
    Calls Tryd.prog 96 #[.slice a len cap, .int .i64 left] w fun e w' => SizedD left (szS (szE d) xs) e ∧ Below w.heap.size w w' := by
  have hlen := hin.length
  have hS : szS (szE d) xs = len + sumOf (szE d) xs := by rw [szS, hlen]
  rw [hS]
  have HLEN := Lib.hid hlen
  have HIN := Lib.hid (And.intro hin (And.intro hd hN))
  clear hS hlen hin hd hN
  by_cases h : left < len
  · go_enter Tryd.func96, Tryd.ntmps96
    go_wp2
    go_ret
    exact ⟨.inl ⟨by omega, rfl⟩, Below.refl _ _⟩
  · go_enter Tryd.func96, Tryd.ntmps96
    go_wp2
    go_loopw [1, 5] (fun l i wr => ∃ k : Nat, k ≤ len ∧ i = .int .i64 k ∧ ∃ Lf : Int, l = .int .i64 Lf ∧ 0 ≤ Lf ∧ Lf + len + sumOf (szE d) (xs.take k) = left ∧ Below w.heap.size w wr) (fun _ i _ => len - (intOf i).toNat)
    case atStart => exact ⟨0, Nat.zero_le _, rfl, _, rfl, by omega, by simp [sumOf], Below.refl _ _⟩
    case round =>
      obtain ⟨k, hk, rfl, Lf, rfl, hL0, hL1, hbr⟩ := hrel
      by_cases hlt : k < len
      · obtain ⟨b, off, x, cs1, rfl, hx, hR, k1, k2, rfl, c0, c1, c2, c3⟩ := kid_place (HIN.out.1.later (exprAt_lasts d) hbr) hlt
        have hts : sumOf (szE d) (xs.take (k + 1)) = sumOf (szE d) (xs.take k) + szE d x := by rw [take_succ_of hx, sumOf_snoc]
        have htl := sumOf_take (szE d) xs (k + 1)
        have HT := Lib.hid hts
        have HR := Lib.hid (And.intro hR (HIN.out.2.2 x (List.mem_of_getElem? hx)))
        clear hx hts hR
        go_wp2_with fail
        refine (HIN.out.2.1 _ x Lf wr HR.out.1 HR.out.2 hL0 (by omega)).mono ?_
        rintro e w1 ⟨hsz, hb1⟩
        have hb01 := hbr.trans (hb1.mono hbr.size)
        clear hb1
        have HSZ := Lib.hid hsz
        generalize szE d x = q at HT HSZ
        have hts := HT.out
        have hsz := HSZ.out
        clear HSZ
        rcases hsz with ⟨hsz, rfl⟩ | ⟨hsz, rfl⟩
        · clear hts
          have hres : left < ((len + sumOf (szE d) xs : Nat) : Int) := by have := HT.out; omega
          go_wp2
          go_ret
          exact ⟨.inl ⟨hres, rfl⟩, hb01⟩
        · have hn : decide (Lf - (q : Int) < 0) = false := decide_eq_false (by omega)
          clear hts
          go_wp2
          go_roundw
          case rel => exact ⟨k + 1, by omega, by go_num, _, rfl, by omega, by have := HT.out; omega, hb01⟩
          case measure => simp [intOf]; omega
      · obtain rfl : k = len := by omega
        have hall : sumOf (szE d) (xs.take k) = sumOf (szE d) xs := by rw [List.take_of_length_le (by have := HLEN.out; omega)]
        have HA := Lib.hid hall
        clear hall
        go_wp2
        go_ret
        exact ⟨.inr ⟨by have := HA.out; omega, ret_int (by have := HA.out; omega)⟩, hbr⟩
set_option maxHeartbeats 800000 in
theorem szExpr_any : ∀ d, SzAt d := by
  intro d
  induction d with
  | zero => exact fun _ _ _ _ h => h.elim
  | succ d ih =>
  intro cs x left w hR hN h0 h1
  obtain ⟨hNl, hNk⟩ := any_partsE0 hN
  have hnl : x.name.size ≤ 9223372036854775807 := by
    have h : decide (maxLen < x.name.size) = false := hNl
    have h2 : x.name.size ≤ maxLen := by simpa using h
    unfold maxLen at h2; omega
  obtain ⟨ka, kc, rfl, ⟨hkl, _⟩, hks⟩ := hR
  have hz : szE (d + 1) x = x.name.size + szS (szE d) x.kids := rfl
  rw [hz]
  have hm2 : x.kids.length ≤ 9223372036854775807 := Nat.le_trans hkl (by decide)
  have hb0 : Below w.heap.size w (w.alloc (.cells #[.int .i64 x.op, .int .i64 x.n, .string x.name, .slice ka x.kids.length kc] 60)) := (Below.refl _ _).alloc (Nat.le_refl _) _
  have HQ := Lib.hid (fun L (hL0 : 0 ≤ L) (hL1 : L ≤ 1048576) => szExprS_any d ih ka x.kids.length kc x.kids L _ (hks.later (exprAt_lasts d) hb0) hNk hL0 hL1 hm2)
  clear hz ih hks hN hNl hNk
  generalize szS (szE d) x.kids = q at HQ ⊢
  by_cases h : left < (x.name.size : Int)
  · go_enter Tryd.func40, Tryd.ntmps40
    go_wp2
    go_ret
    exact ⟨.inl ⟨by omega, rfl⟩, hb0⟩
  · go_enter Tryd.func40, Tryd.ntmps40
    go_wp2_with fail
    refine (HQ.out _ (by omega) (by omega)).mono ?_
    rintro e w1 ⟨hsz0, hb1⟩
    have hc1 := hb0.trans (hb1.mono hb0.size)
    rcases hsz0 with ⟨hsz0, rfl⟩ | ⟨hsz0, rfl⟩
    · go_wp2
      go_ret
      exact ⟨.inl ⟨by omega, rfl⟩, hc1⟩
    · have hn0 : decide (left - (x.name.size : Int) - ((q : Nat) : Int) < 0) = false := decide_eq_false (by omega)
      go_wp2
      go_ret
      exact ⟨.inr ⟨by omega, ret_int (by first | rfl | omega)⟩, hc1⟩

/-- Two copies of one expression are equal. -/
def EqAt (d : Nat) : Prop := ∀ (cs cs' : List Value) (x : ExprD) (w : World), ExprAt d w cs x → ExprAt d w cs' x →
    Calls Tryd.prog 45 #[.agg cs.toArray, .agg cs'.toArray] w fun e w' => e = .returned (.bool true) ∧ Below w.heap.size w w'
set_option maxRecDepth 100000 in
set_option maxHeartbeats 800000 in
theorem eqExprS_any (d : Nat) (hd : EqAt d) (a a' : Option Addr) (len cap cap' : Nat) (xs : List ExprD) (w : World) (hin : SliceRd 4 (ExprAt d) w a len xs) (hin' : SliceRd 4 (ExprAt d) w a' len xs) (hlen : len ≤ maxLen) :
    Calls Tryd.prog 98 #[.slice a len cap, .slice a' len cap'] w fun e w' => e = .returned (.bool true) ∧ Below w.heap.size w w' := by
  have hne : ((len : Int) != (len : Int)) = false := by simp
  have hl2 : len ≤ 9223372036854775807 := by unfold maxLen at hlen; omega
  have HD := Lib.hid (And.intro hd (And.intro hin hin'))
  clear hd hin hin' hlen
  go_enter Tryd.func98, Tryd.ntmps98
  go_wp2
  go_loopw [5] (fun i wr => ∃ k : Nat, k ≤ len ∧ i = .int .i64 k ∧ Below w.heap.size w wr) (fun i _ => len - (intOf i).toNat)
  case atStart => exact ⟨0, Nat.zero_le _, rfl, Below.refl _ _⟩
  case round =>
    obtain ⟨k, hk, rfl, hbr⟩ := hrel
    by_cases hlt : k < len
    · obtain ⟨b, off, x, cs1, rfl, hx, hR, k1, k2, rfl, c0, c1, c2, c3⟩ := kid_place (HD.out.2.1.later (exprAt_lasts d) hbr) hlt
      obtain ⟨b', off', x', cs2, rfl, hx', hR', k1', k2', rfl, d0, d1, d2, d3⟩ := kid_place (HD.out.2.2.later (exprAt_lasts d) hbr) hlt
      rw [hx] at hx'
      cases hx'
      have hid : Below wr.heap.size wr wr.drew := (Below.refl _ _).drew
      have HZ := Lib.hid (And.intro (exprAt_lasts d _ _ _ _ hid hR) (exprAt_lasts d _ _ _ _ hid hR'))
      clear hx hid hR hR'
      go_wp2_with fail
      go_still_tail 8, (by kernel_rfl)
      change wpList _ _ _ _ _ wr.drew
      have hbd : Below w.heap.size w wr.drew := hbr.drew
      generalize wr.drew = wd at hbd HZ ⊢
      go_wp2_with fail
      refine (HD.out.1 _ _ x wd HZ.out.1 HZ.out.2).mono ?_
      rintro e w1 ⟨rfl, hb1⟩
      have hb01 := hbd.trans (hb1.mono hbd.size)
      clear hb1 hbd HZ
      go_wp2
      go_roundw
      case rel => exact ⟨k + 1, by omega, by go_num, hb01⟩
      case measure => simp [intOf]; omega
    · obtain rfl : k = len := by omega
      go_wp2
      go_ret
      exact ⟨rfl, hbr⟩
set_option maxHeartbeats 800000 in
theorem eqExpr_any : ∀ d, EqAt d := by
  intro d
  induction d with
  | zero => exact fun _ _ _ _ h => h.elim
  | succ d ih =>
  intro cs cs' x w hR hR'
  obtain ⟨ka, kc, rfl, ⟨hkl, _⟩, hks⟩ := hR
  obtain ⟨ka2, kc2, rfl, _, hks2⟩ := hR'
  have q1 : (x.op != x.op) = false := by simp
  have q2 : (x.n != x.n) = false := by simp
  have q3 : (x.name.toList == x.name.toList) = true := by simp
  have hb0 : Below w.heap.size w ((w.alloc (.cells #[.int .i64 x.op, .int .i64 x.n, .string x.name, .slice ka x.kids.length kc] 29)).alloc (.cells #[.int .i64 x.op, .int .i64 x.n, .string x.name, .slice ka2 x.kids.length kc2] 29)) := ((Below.refl _ _).alloc (Nat.le_refl _) _).alloc (by simp) _
  have HQ := Lib.hid (eqExprS_any d ih ka ka2 x.kids.length kc kc2 x.kids _ (hks.later (exprAt_lasts d) hb0) (hks2.later (exprAt_lasts d) hb0) hkl)
  clear ih hks hks2 hkl
  go_enter Tryd.func45, Tryd.ntmps45
  go_wp2_with fail
  refine HQ.out.mono ?_
  rintro e w1 ⟨rfl, hb1⟩
  have hc1 := hb0.trans (hb1.mono hb0.size)
  clear hb1
  go_wp2
  go_ret
  exact ⟨rfl, hc1⟩

end Go.Proofs.YtccfbnhlhjlmgaaDoor
