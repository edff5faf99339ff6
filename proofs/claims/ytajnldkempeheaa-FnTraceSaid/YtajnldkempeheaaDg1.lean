/-
  The drawn unit: a block to which one leads; an instruction.
-/
import Derived.Test.YtajnldkempeheaaSep
import Derived.Test.YtajnldkempeheaaNumbers
import Derived.Test.YtajnldkempeheaaRq3

namespace Go.Proofs.Ytajnldkempeheaa
open Go.RowKit
set_option linter.unusedVariables false
set_option linter.unusedSimpArgs false

/-- The reader behind some draws, at most K; it alone has changed of what was there. -/
structure RdAt (w0 : World) (br : Nat) (ra : Option Addr) (rl rc : Nat) (bs : List Int) (K : Nat) (w : World) (w' : World) : Prop where
  rd : ∃ p, p ≤ K ∧ Rd w0 w' br ra rl rc bs p
  turned : Turned (fun k => k = br) w w'
section
variable {w0 w w1 w' : World} {br : Nat} {ra : Option Addr} {rl rc : Nat} {bs : List Int} {K K' : Nat}
theorem RdAt.later (h : RdAt w0 br ra rl rc bs K w w1) (hb : Below w1.heap.size w1 w') : RdAt w0 br ra rl rc bs K w w' := by
  obtain ⟨⟨p, hp, hr⟩, ht⟩ := h
  exact ⟨⟨p, hp, hr.bytes, hr.below.trans (hb.mono hr.below.size), hr.base, (hb.block _ hr.lt).trans hr.blk⟩, ht.trans (turned_of_below hb (fun k h1 h2 => by omega))⟩
theorem RdAt.trans (h : RdAt w0 br ra rl rc bs K w w1) (k : RdAt w0 br ra rl rc bs K' w1 w') : RdAt w0 br ra rl rc bs K' w w' := ⟨k.rd, h.turned.trans k.turned⟩
theorem RdAt.lt (h : RdAt w0 br ra rl rc bs K w w') : br < w'.heap.size ∧ w0.heap.size ≤ br := by obtain ⟨p, -, hr⟩ := h.rd; exact ⟨hr.lt, hr.base⟩
theorem RdAt.base (h : RdAt w0 br ra rl rc bs K w w') : Below w0.heap.size w0 w' := by obtain ⟨p, -, hr⟩ := h.rd; exact hr.below
/-- Something else is written. -/
theorem RdAt.stay {D : Nat → Prop} (h : RdAt w0 br ra rl rc bs K w w1) (ht : Turned D w1 w') (hD : ∀ k, D k → k ≠ br ∧ w.heap.size ≤ k) (hlo : w0.heap.size ≤ w.heap.size) : RdAt w0 br ra rl rc bs K w w' := by
  obtain ⟨⟨p, hp, hr⟩, h2⟩ := h
  refine ⟨⟨p, hp, hr.bytes, hr.below.trans (ht.below hr.below.size (fun k hk => by have := (hD k hk).2; omega)), hr.base, (ht.block _ hr.lt (fun e => (hD _ e).1 rfl)).trans hr.blk⟩, ⟨ht.os.trans h2.os, ht.tape.trans h2.tape, ht.output.trans h2.output, Nat.le_trans h2.size ht.size, fun k hk hn => ?_⟩⟩
  exact (ht.block k (Nat.lt_of_lt_of_le hk h2.size) (fun e => by have := (hD _ e).2; omega)).trans (h2.block k hk hn)
theorem pickR (h : RdAt w0 br ra rl rc bs K w w1) (hl : rl ≤ 2000) (hK : K ≤ 1000000) {n : Int} (hn : 1 ≤ n) :
    Calls Try.prog 22 #[.pointer (some ⟨br, 0, none⟩), .int .i64 n] w1 fun e w' => ∃ v : Int, e = .returned (.int .i64 v) ∧ (0 ≤ v ∧ v < n) ∧ RdAt w0 br ra rl rc bs (K + 1) w w' ∧ w1.grownBy w' (some br) := by
  obtain ⟨⟨p, hp, hr⟩, ht⟩ := h
  refine (pick_any w0 w1 br ra rl rc bs p n hr hn hl (by omega)).mono ?_
  rintro e w2 ⟨v, h0, h1, rfl, hr2, hg⟩
  exact ⟨v, rfl, ⟨h0, h1⟩, ⟨⟨p + 1, by omega, hr2⟩, ht.trans (turned_of_grown hg (fun k hk => (Option.some.inj hk).symm))⟩, hg⟩
theorem numR (h : RdAt w0 br ra rl rc bs K w w1) (hl : rl ≤ 2000) (hK : K ≤ 1000000) {g n c : Nat} {xs : List Int} (hin : IntsRd w1 (some ⟨g, 0, none⟩) n xs) (hg : g ≠ br) (hn : 1 ≤ n) :
    Calls Try.prog 25 #[.pointer (some ⟨br, 0, none⟩), .slice (some ⟨g, 0, none⟩) n c] w1 fun e w' => ∃ v : Int, e = .returned (.int .i64 v) ∧ v ∈ xs ∧ RdAt w0 br ra rl rc bs (K + 1) w w' ∧ w1.grownBy w' (some br) := by
  obtain ⟨⟨p, hp, hr⟩, ht⟩ := h
  refine (num_any w0 w1 br ra rl rc bs p g n c xs hr hin hg hn hl (by omega)).mono ?_
  rintro e w2 ⟨v, h0, rfl, hr2, hg⟩
  exact ⟨v, rfl, h0, ⟨⟨p + 1, by omega, hr2⟩, ht.trans (turned_of_grown hg (fun k hk => (Option.some.inj hk).symm))⟩, hg⟩
set_option maxHeartbeats 1000000 in
theorem l7To_any (hR : RdAt w0 br ra rl rc bs K w w) (hl : rl ≤ 2000) (hK : K + 2 ≤ 1000000) {b n : Nat} (hb : b < n) (hn : 2 ≤ n) (hn2 : n ≤ 100) :
    Calls Try.prog 57 #[.pointer (some ⟨br, 0, none⟩), .int .i64 (b : Int), .int .i64 (n : Int)] w fun e w' => ∃ v : Int, e = .returned (.int .i64 v) ∧ (-1000 ≤ v ∧ v ≤ 1000) ∧ RdAt w0 br ra rl rc bs (K + 2) w w' := by
  by_cases hlt : b < n - 1
  · have d1 : decide ((b : Int) < (n : Int) - 1) = true := decide_eq_true (by omega)
    go_enter Try.func57, Try.ntmps57
    go_wp2_with fail
    refine (pickR hR hl (by omega) (n := 4) (by omega)).mono ?_
    rintro e w1 ⟨v, rfl, hv, hR1, -⟩
    have HR1 := Lib.hid hR1
    clear hR1
    by_cases hv0 : 0 < v
    · have d2 : decide (v > 0) = true := decide_eq_true hv0
      go_wp2_with fail
      refine (pickR HR1.out hl (by omega) (n := (n : Int) - 1 - (b : Int)) (by omega)).mono ?_
      rintro e w2 ⟨v2, rfl, hv2, hR2, -⟩
      have HR2 := Lib.hid hR2
      clear hR2
      go_wp2
      go_ret
      exact ⟨_, rfl, by omega, HR2.out⟩
    · have d2 : decide (v > 0) = false := decide_eq_false hv0
      go_wp2_with fail
      refine (pickR HR1.out hl (by omega) (n := (n : Int) - 1) (by omega)).mono ?_
      rintro e w2 ⟨v2, rfl, hv2, hR2, -⟩
      have HR2 := Lib.hid hR2
      clear hR2
      go_wp2
      go_ret
      exact ⟨_, rfl, by omega, HR2.out⟩
  · have d1 : decide ((b : Int) < (n : Int) - 1) = false := decide_eq_false (by omega)
    go_enter Try.func57, Try.ntmps57
    go_wp2_with fail
    refine (pickR hR hl (by omega) (n := (n : Int) - 1) (by omega)).mono ?_
    rintro e w2 ⟨v2, rfl, hv2, hR2, -⟩
    obtain ⟨⟨p, hp, hr⟩, ht⟩ := hR2
    have HR2 := Lib.hid (show RdAt w0 br ra rl rc bs (K + 2) w w2 from ⟨⟨p, by omega, hr⟩, ht⟩)
    clear hr ht hp
    go_wp2
    go_ret
    exact ⟨_, rfl, by omega, HR2.out⟩
end

end Go.Proofs.Ytajnldkempeheaa
