/-
  The program's test of an instruction.
-/
import Derived.Test.YtajnldkempeheaaUvSmall
import Derived.Test.YtajnldkempeheaaCore

namespace Go.Proofs.Ytajnldkempeheaa
open Go.RowKit

/-- The function value answers p of each instruction, and changes nothing that was there. -/
structure InsFn (w : World) (f : Nat) (caps : Array Value) (xs : List InsD) (p : InsD → Bool) : Prop where
  enter : ∀ v W, (callFunc f (#[v] ++ caps)).run Try.prog W = .ok (.enter f (#[v] ++ caps)) W
  calls : ∀ x ∈ xs, ∀ cs W, Below w.heap.size w W → InsR W cs x → Calls Try.prog f (#[.agg (List.toArray cs)] ++ caps) W fun e w' => e = .returned (.bool (p x)) ∧ Below W.heap.size W w'

set_option maxHeartbeats 800000 in
theorem indexInss_any (f : Nat) (caps : Array Value) (p : InsD → Bool) (a : Option Addr) (len cap : Nat) (xs : List InsD) (w : World) (hin : SliceRd 4 InsR w a len xs) (hf : InsFn w f caps xs p) (hs : len ≤ 1099511627776) :
    Calls Try.prog 81 #[.slice a len cap, .func (.func f) #[] caps] w fun e w' => e = .returned (.int .i64 (idxP p xs)) ∧ Below w.heap.size w w' := by
  have hen := hf.enter
  have HL := Lib.hid hin.length
  go_enter Try.func81, Try.ntmps81
  go_wp2
  go_loopw [8] (fun i wr => ∃ k : Nat, k ≤ len ∧ i = .int .i64 k ∧ Below w.heap.size w wr ∧ Hid (∀ (j : Nat) x, j < k → xs[j]? = some x → p x = false)) (fun i _ => len - (intOf i).toNat)
  case atStart => exact ⟨0, Nat.zero_le _, rfl, Below.refl _ _, Lib.hid (fun j x hj => by omega)⟩
  case round =>
    obtain ⟨k, hk, rfl, hbr, hno⟩ := hrel
    by_cases hlt : k < len
    · obtain ⟨b, off, op, to, args, num, aa, ac, rfl, hx, c0, c1, c2, c3, hR⟩ := ins_place (hin.later insR_lasts hbr) hlt
      have hcall := hf.calls _ (List.mem_of_getElem? hx) _ wr hbr hR
      have HX := Lib.hid hx
      have HC := Lib.hid hcall
      clear hx hcall hR
      by_cases hp : p ⟨op, to, args, num⟩ = true
      · have hidx := idxP_some hno.out HX.out hp
        have HI := Lib.hid hidx
        have HP := Lib.hid hp
        clear hidx hp
        go_wp2_with fail
        refine HC.out.mono ?_
        rw [HP.out]
        rintro e w1 ⟨rfl, hb1⟩
        go_wp2
        go_ret
        exact ⟨ret_int HI.out.symm, hbr.trans (hb1.mono hbr.size)⟩
      · have hp' : p ⟨op, to, args, num⟩ = false := by simpa using hp
        have HP := Lib.hid hp'
        clear hp hp'
        go_wp2_with fail
        refine HC.out.mono ?_
        rw [HP.out]
        rintro e w1 ⟨rfl, hb1⟩
        go_wp2
        go_roundw
        case rel =>
          refine ⟨k + 1, by omega, by go_num, hbr.trans (hb1.mono hbr.size), Lib.hid fun j x hj hjx => ?_⟩
          by_cases hjk : j = k
          · subst hjk
            rw [HX.out] at hjx
            cases hjx
            exact HP.out
          · exact hno.out j x (by omega) hjx
        case measure => simp [intOf]; omega
    · obtain rfl : k = len := by omega
      go_wp2
      go_ret
      refine ⟨ret_int ?_, hbr⟩
      rw [idxP_none]
      intro r hr
      obtain ⟨j, hj⟩ := List.getElem?_of_mem hr
      exact hno.out j r (by have := (List.getElem?_eq_some_iff.1 hj).1; have := HL.out; omega) hj

theorem containsInss_any (f : Nat) (caps : Array Value) (p : InsD → Bool) (a : Option Addr) (len cap : Nat) (xs : List InsD) (w : World) (hin : SliceRd 4 InsR w a len xs) (hf : InsFn w f caps xs p) (hs : len ≤ 1099511627776) :
    Calls Try.prog 63 #[.slice a len cap, .func (.func f) #[] caps] w fun e w' => e = .returned (.bool (xs.any p)) ∧ Below w.heap.size w w' := by
  have HI := Lib.hid (idxP_nonneg (p := p) xs)
  go_enter Try.func63, Try.ntmps63
  go_wp2_with fail
  refine (indexInss_any f caps p a len cap xs w hin hf hs).mono ?_
  rintro e w1 ⟨rfl, hb1⟩
  go_wp2
  go_ret
  exact ⟨ret_bool HI.out, hb1⟩


def callB (us : List CodeD) (k : Nat) (x : InsD) : Bool := (decide (0 ≤ x.num) && decide (x.num ≤ (k : Int) - 1)) && ((x.args.length : Int) == (us.map (·.params)).getD x.num.toNat 0)
def tailB (us : List CodeD) (k : Nat) (x : InsD) : Bool := if x.op = 1 then ((x.args.length : Int) == 0) && byteB x.num else if x.op = 14 then callB us k x else (x.num == 0) && ((x.args.length : Int) == argsN x.op)
def toB (regs op to : Int) : Bool := if makesB op then inR regs to else !(to != -1)
/-- The instruction is one of the code k of a unit, if the calls go to codes ahead. -/
def insB (us : List CodeD) (k : Nat) (regs : Int) (x : InsD) : Bool := isOpB x.op && (!x.args.any (fun r => !inR regs r)) && toB regs x.op x.to && tailB us k x

theorem insOk1_any (r regs : Int) (cb : Nat) (w : World) (hr : 0 ≤ regs ∧ regs ≤ 300) (hc : w.cell? ⟨cb, 1, none⟩ = some (.int .i64 regs)) :
    Calls Try.prog 82 #[.int .i64 r, .pointer (some ⟨cb, 0, none⟩)] w fun e w' => e = .returned (.bool (inR regs r)) ∧ w' = w := by
  go_enter Try.func82, Try.ntmps82
  go_wp2_with fail
  refine (within_any r 0 (regs - 1) w).mono ?_
  rintro e w1 ⟨rfl, rfl⟩
  go_wp2
  go_ret
  exact ⟨rfl, rfl⟩
set_option maxRecDepth 100000 in
theorem insOk2_any (r regs : Int) (cb rb : Nat) (w : World) (hr : 0 ≤ regs ∧ regs ≤ 300) (hc : w.cell? ⟨cb, 1, none⟩ = some (.int .i64 regs)) (hf : w.cell? ⟨rb, 0, none⟩ = some (.func (.func 82) #[] #[.pointer (some ⟨cb, 0, none⟩)])) :
    Calls Try.prog 84 #[.int .i64 r, .pointer (some ⟨rb, 0, none⟩)] w fun e w' => e = .returned (.bool (!inR regs r)) ∧ w' = w := by
  have hen : ∀ v W, (callFunc 82 (#[v] ++ #[.pointer (some ⟨cb, 0, none⟩)])).run Try.prog W = .ok (.enter 82 (#[v] ++ #[.pointer (some ⟨cb, 0, none⟩)])) W := fun _ _ => rfl
  go_enter Try.func84, Try.ntmps84
  go_wp2_with fail
  refine (insOk1_any r regs cb w hr hc).mono ?_
  rintro e w1 ⟨rfl, rfl⟩
  go_wp2
  go_ret
  exact ⟨rfl, rfl⟩

theorem store_new (w : World) (b : Nat) (old v : Value) (t : TypeId) (hb : b = w.heap.size) (hv : v.oneCell' = true) : (store ⟨b, 0, none⟩ v).run Try.prog (w.alloc (.cells #[old] t)) = .ok () (w.alloc (.cells #[v] t)) := by
  subst hb
  have h0 : (w.alloc (.cells #[old] t)).cell? ⟨w.heap.size, 0, none⟩ = some old := cell_of_row _ _ 0 _ _ _ (heap_alloc_new w _)
  rw [run_store _ _ _ _ _ hv, h0, frozen_of_row _ _ 0 _ _ (heap_alloc_new w _)]
  simp only [Bool.false_eq_true, if_false]
  rw [World.setCell_alloc_new]
  rfl

/-- Four blocks, one behind the other. -/
structure Four (n : Nat) (A B C D : Obj) (w : World) : Prop where
  a : w.heap[n]? = some A
  b : w.heap[n + 1]? = some B
  c : w.heap[n + 2]? = some C
  d : w.heap[n + 3]? = some D
theorem four_blocks (w : World) (A B C D : Obj) : Four w.heap.size A B C D ((((w.alloc A).alloc B).alloc C).alloc D) ∧ Below w.heap.size w ((((w.alloc A).alloc B).alloc C).alloc D) := by
  obtain ⟨h3, hs, hb⟩ := three_blocks w A B C
  refine ⟨⟨?_, ?_, ?_, ?_⟩, hb.alloc (by omega) _⟩
  · exact (heap_alloc_old _ _ (by omega)).trans h3.1
  · exact (heap_alloc_old _ _ (by omega)).trans h3.2
  · exact (heap_alloc_old _ _ (by omega)).trans h3.3
  · have := heap_alloc_new (((w.alloc A).alloc B).alloc C) D
    rwa [hs] at this

theorem within_is {x lo hi : Int} {v : Bool} (h : (decide (lo ≤ x) && decide (x ≤ hi)) = v) (w : World) : Calls Try.prog 29 #[.int .i64 x, .int .i64 lo, .int .i64 hi] w fun e w' => e = .returned (.bool v) ∧ w' = w := by
  subst h
  exact within_same x lo hi w
theorem l1In_is {x lo hi : Int} {v : Bool} (h : (decide (lo ≤ x) && decide (x ≤ hi)) = v) (w : World) : Calls Try.prog 18 #[.int .i64 x, .int .i64 lo, .int .i64 hi] w fun e w' => e = .returned (.bool v) ∧ w' = w := by
  subst h
  exact l1In_same x lo hi w

set_option maxRecDepth 100000 in
set_option maxHeartbeats 4000000 in
theorem insOk_any (us : List CodeD) (ua : Option Addr) (uc k : Nat) (c : CodeD) (hk : us[k]? = some c) (hr : 0 ≤ c.regs ∧ c.regs ≤ 300) (hn : us.length ≤ 1048576) (cs : List Value) (x : InsD) (hx : x.args.length ≤ 1048576) (w : World) (hU : SliceRd 3 CodeR w ua us.length us) (hR : InsR w cs x) :
    Calls Try.prog 65 #[.agg #[.slice ua us.length uc], .int .i64 k, .agg cs.toArray] w fun e w' => e = .returned (.bool (insB us k c.regs x)) ∧ Below w.heap.size w w' := by
  have hmf : ∀ (fn : Fn) (first cap : Array Value) (w : World), (Instr.makeFunc fn first cap).run Try.prog w = .ok (.func fn first cap) w := fun _ _ _ _ => rfl
  obtain ⟨aa, ac, rfl, _, hargs⟩ := hR
  have hkl : k < us.length := (List.getElem?_eq_some_iff.1 hk).1
  obtain ⟨ub, uo, params, regs, blocks, ba, bc, rfl, hk2, c0, c1, c2, hCR⟩ := code_place hU hkl
  rw [hk] at hk2
  cases hk2
  obtain ⟨op, to, args, num⟩ := x
  have HF := Lib.hid (four_blocks w (.cells #[.slice (some ⟨ub, uo, none⟩) us.length uc] 25) (.cells #[.int .i64 op, .int .i64 to, .slice aa args.length ac, .int .i64 num] 83) (.cells #[.int .i64 params, .int .i64 regs, .slice ba blocks.length bc] 37)
    (.cells #[.func (.func 82) #[] #[.pointer (some ⟨w.heap.size + 1 + 1, 0, none⟩)]] 87))
  have hsf : (store ⟨w.heap.size + 1 + 1 + 1, 0, none⟩ (.func (.func 82) #[] #[.pointer (some ⟨w.heap.size + 1 + 1, 0, none⟩)])).run Try.prog ((((w.alloc (.cells #[.slice (some ⟨ub, uo, none⟩) us.length uc] 25)).alloc (.cells #[.int .i64 op, .int .i64 to, .slice aa args.length ac, .int .i64 num] 83)).alloc (.cells #[.int .i64 params, .int .i64 regs, .slice ba blocks.length bc] 37)).alloc (.cells #[.nilFunc] 87)) = .ok () ((((w.alloc (.cells #[.slice (some ⟨ub, uo, none⟩) us.length uc] 25)).alloc (.cells #[.int .i64 op, .int .i64 to, .slice aa args.length ac, .int .i64 num] 83)).alloc (.cells #[.int .i64 params, .int .i64 regs, .slice ba blocks.length bc] 37)).alloc (.cells #[.func (.func 82) #[] #[.pointer (some ⟨w.heap.size + 1 + 1, 0, none⟩)]] 87)) := store_new _ _ _ _ _ (by simp) rfl
  have hb2 : Below w.heap.size w ((w.alloc (.cells #[.slice (some ⟨ub, uo, none⟩) us.length uc] 25)).alloc (.cells #[.int .i64 op, .int .i64 to, .slice aa args.length ac, .int .i64 num] 83)) := ((Below.refl _ _).alloc (Nat.le_refl _) _).alloc (by simp) _
  have d0 := cell_later hb2 c0
  have d1 := cell_later hb2 c1
  have d2 := cell_later hb2 c2
  have HC := Lib.hid (And.intro hU (And.intro hargs (And.intro hk (And.intro hr hx))))
  clear c0 c1 c2 hb2
  clear hU hargs hk hr hx hCR
  go_enter Try.func65, Try.ntmps65
  go_wp2_with fail
  generalize ((((w.alloc (.cells #[.slice (some ⟨ub, uo, none⟩) us.length uc] 25)).alloc (.cells #[.int .i64 op, .int .i64 to, .slice aa args.length ac, .int .i64 num] 83)).alloc (.cells #[.int .i64 params, .int .i64 regs, .slice ba blocks.length bc] 37)).alloc (.cells #[.func (.func 82) #[] #[.pointer (some ⟨w.heap.size + 1 + 1, 0, none⟩)]] 87)) = W4 at HF ⊢
  clear hsf d0 d1 d2
  have hfo := HF.out
  have hb4 := hfo.2
  have a0 : W4.cell? ⟨w.heap.size, 0, none⟩ = some (.slice (some ⟨ub, uo, none⟩) us.length uc) := cell_of_row _ _ 0 _ _ _ hfo.1.a
  have b0 : W4.cell? ⟨w.heap.size + 1, 0, none⟩ = some (.int .i64 op) := cell_of_row _ _ 0 _ _ _ hfo.1.b
  have b1 : W4.cell? ⟨w.heap.size + 1, 1, none⟩ = some (.int .i64 to) := cell_of_row _ _ 1 _ _ _ hfo.1.b
  have b2 : W4.cell? ⟨w.heap.size + 1, 2, none⟩ = some (.slice aa args.length ac) := cell_of_row _ _ 2 _ _ _ hfo.1.b
  have b3 : W4.cell? ⟨w.heap.size + 1, 3, none⟩ = some (.int .i64 num) := cell_of_row _ _ 3 _ _ _ hfo.1.b
  have r1 : W4.cell? ⟨w.heap.size + 1 + 1, 1, none⟩ = some (.int .i64 regs) := cell_of_row _ _ 1 _ _ _ hfo.1.c
  have f0 : W4.cell? ⟨w.heap.size + 1 + 1 + 1, 0, none⟩ = some (.func (.func 82) #[] #[.pointer (some ⟨w.heap.size + 1 + 1, 0, none⟩)]) := cell_of_row _ _ 0 _ _ _ hfo.1.d
  have HB := Lib.hid (And.intro hb4 (And.intro r1 f0))
  clear HF hfo hb4
  refine (isIns_any op W4).mono ?_
  cases hio : isOpB op with
  | false =>
    have HI := Lib.hid (show insB us k regs ⟨op, to, args, num⟩ = false by simp [insB, hio])
    clear hio
    rintro e w1 ⟨rfl, rfl⟩
    go_wp2
    go_ret
    exact ⟨ret_bool HI.out.symm, HB.out.1⟩
  | true =>
    have HIO := Lib.hid hio
    clear hio
    rintro e w1 ⟨rfl, rfl⟩
    go_wp2_with fail
    refine (containsInts_any 84 #[.pointer (some ⟨w.heap.size + 1 + 1 + 1, 0, none⟩)] (fun r => !inR regs r) aa args.length ac args w1 (HC.out.2.1.later HB.out.1) ⟨fun v W => rfl, fun y hy W hW => ?_⟩ (by have := HC.out.2.2.2.2; omega)).mono ?_
    · refine (insOk2_any y regs _ _ W HC.out.2.2.2.1 (cell_later hW HB.out.2.1) (cell_later hW HB.out.2.2)).mono ?_
      rintro e w2 ⟨rfl, rfl⟩
      exact ⟨rfl, Below.refl _ _⟩
    cases hva : args.any (fun r => !inR regs r) with
    | true =>
      have HI := Lib.hid (show insB us k regs ⟨op, to, args, num⟩ = false by simp [insB, hva])
      clear hva
      rintro e w2 ⟨rfl, hb2⟩
      go_wp2
      go_ret
      exact ⟨ret_bool HI.out.symm, HB.out.1.trans (hb2.mono HB.out.1.size)⟩
    | false =>
      have HI := Lib.hid (show insB us k regs ⟨op, to, args, num⟩ = (toB regs op to && tailB us k ⟨op, to, args, num⟩) by simp [insB, hva, HIO.out])
      clear hva
      rintro e w2 ⟨rfl, hb2⟩
      have a0' := cell_later hb2 a0
      have b0' := cell_later hb2 b0
      have b1' := cell_later hb2 b1
      have b2' := cell_later hb2 b2
      have b3' := cell_later hb2 b3
      have r1' := cell_later hb2 r1
      have f0' := cell_later hb2 f0
      have HB2 := Lib.hid (HB.out.1.trans (hb2.mono HB.out.1.size))
      clear hb2 a0 b0 b1 b2 b3 r1 f0 HB
      have HR1 := Lib.hid (insOk1_any to regs _ w2 HC.out.2.2.2.1 r1')
      have hen : ∀ v W, (callFunc 82 (#[v] ++ #[.pointer (some ⟨w.heap.size + 1 + 1, 0, none⟩)])).run Try.prog W = .ok (.enter 82 (#[v] ++ #[.pointer (some ⟨w.heap.size + 1 + 1, 0, none⟩)])) W := fun _ _ => rfl
      cases hm : makesB op with
      | false =>
        have HM := Lib.hid hm
        have hop : op = 12 ∨ op = 13 := by
          have h := HIO.out
          rw [makesB, h] at hm
          simp at hm
          omega
        have e1 : (op == 1) = false := by simp; omega
        have e14 : (op == 14) = false := by simp; omega
        have HO := Lib.hid (show op ≠ 1 ∧ op ≠ 14 by omega)
        clear hm hop
        cases ht : to != -1 with
        | true =>
          have HI2 := Lib.hid (show insB us k regs ⟨op, to, args, num⟩ = false by rw [HI.out, toB, HM.out, if_neg (by simp), ht]; rfl)
          go_wp2_with fail
          refine (sets_any op w2).mono ?_
          rw [HM.out]
          rintro e w3 ⟨rfl, rfl⟩
          go_wp2_with fail
          refine (sets_any op w3).mono ?_
          rw [HM.out]
          rintro e w4 ⟨rfl, rfl⟩
          go_wp2
          go_ret
          exact ⟨ret_bool HI2.out.symm, HB2.out⟩
        | false =>
          have HI2 := Lib.hid (show insB us k regs ⟨op, to, args, num⟩ = ((num == 0) && ((args.length : Int) == argsN op)) by rw [HI.out, toB, HM.out, if_neg (by simp), ht, tailB, if_neg HO.out.1, if_neg HO.out.2]; rfl)
          go_wp2_with fail
          refine (sets_any op w2).mono ?_
          rw [HM.out]
          rintro e w3 ⟨rfl, rfl⟩
          go_wp2_with fail
          refine (sets_any op w3).mono ?_
          rw [HM.out]
          rintro e w4 ⟨rfl, rfl⟩
          cases hn0 : num == 0 with
          | false =>
            go_wp2_with fail
            go_quiet (fail)
            go_wp2
            go_ret
            exact ⟨ret_bool (by rw [HI2.out, hn0]; rfl), below_drewN HB2.out _⟩
          | true =>
            go_wp2_with fail
            go_quiet (exact Calls.quiet_of_same (insArgs_any _ _))
            go_wp2
            go_ret
            exact ⟨ret_bool (by rw [HI2.out, hn0]; rfl), below_drewN HB2.out _⟩
      | true =>
        have HM := Lib.hid hm
        clear hm
        go_wp2_with fail
        refine (sets_any op w2).mono ?_
        rw [HM.out]
        rintro e w3 ⟨rfl, rfl⟩
        go_wp2_with fail
        refine HR1.out.mono ?_
        cases hin : inR regs to with
        | false =>
          have HI2 := Lib.hid (show insB us k regs ⟨op, to, args, num⟩ = false by rw [HI.out, toB, HM.out, if_pos rfl, hin]; rfl)
          rintro e w4 ⟨rfl, rfl⟩
          go_wp2
          go_ret
          exact ⟨ret_bool HI2.out.symm, HB2.out⟩
        | true =>
          have HI2 := Lib.hid (show insB us k regs ⟨op, to, args, num⟩ = tailB us k ⟨op, to, args, num⟩ by rw [HI.out, toB, HM.out, if_pos rfl, hin]; rfl)
          clear hin
          rintro e w4 ⟨rfl, rfl⟩
          go_wp2_with fail
          refine (sets_any op w4).mono ?_
          rw [HM.out]
          rintro e w5 ⟨rfl, rfl⟩
          clear hen
          by_cases h1 : op = 1
          · subst h1
            have HI3 := Lib.hid (show insB us k regs ⟨1, to, args, num⟩ = (((args.length : Int) == 0) && byteB num) by rw [HI2.out, tailB, if_pos rfl])
            cases hl : ((args.length : Nat) : Int) == 0 with
            | false =>
              go_wp2
              go_ret
              exact ⟨ret_bool (by rw [HI3.out, hl]; rfl), HB2.out⟩
            | true =>
              go_wp2_with fail
              refine (isByte_any num w5).mono ?_
              rintro e w6 ⟨rfl, rfl⟩
              go_wp2
              go_ret
              exact ⟨ret_bool (by rw [HI3.out, hl]; rfl), HB2.out⟩
          · have e1 : (op == 1) = false := by simpa using h1
            have H1 := Lib.hid h1
            clear h1
            by_cases h14 : op = 14
            · subst h14
              have HI3 := Lib.hid (show insB us k regs ⟨14, to, args, num⟩ = callB us k ⟨14, to, args, num⟩ by rw [HI2.out, tailB, if_neg H1.out, if_pos rfl])
              clear e1
              by_cases hnr : 0 ≤ num ∧ num ≤ (k : Int) - 1
              · obtain ⟨m, rfl⟩ : ∃ m : Nat, num = (m : Int) := ⟨num.toNat, by omega⟩
                have hmk : m < us.length := by omega
                obtain ⟨b9, o9, pm, rm, bm, bam, bcm, hab, hum, g0, _, _, _⟩ := code_place HC.out.1 hmk
                cases hab
                have g0' := cell_later HB2.out g0
                have dd : (decide ((0 : Int) ≤ (m : Int)) && decide ((m : Int) ≤ (k : Int) - 1)) = true := by simp; omega
                have HI4 := Lib.hid (show insB us k regs ⟨14, to, args, (m : Int)⟩ = ((args.length : Int) == pm) by
                  rw [HI3.out, callB]
                  show ((decide ((0 : Int) ≤ (m : Int)) && decide ((m : Int) ≤ (k : Int) - 1)) && _) = _
                  rw [dd, Int.toNat_natCast, List.getD_eq_getElem?_getD, List.getElem?_map, hum]
                  rfl)
                clear g0 hum
                have HW := Lib.hid (fun W => within_is dd W)
                have hmi : (m : Int) < (us.length : Int) := by omega
                clear dd
                go_wp2_with fail
                go_quiet (exact Calls.quiet_of_same (HW.out _))
                go_wp2
                go_ret
                exact ⟨ret_bool HI4.out.symm, below_drewN HB2.out _⟩
              · have dd : (decide ((0 : Int) ≤ num) && decide (num ≤ (k : Int) - 1)) = false := by simp; omega
                have HI4 := Lib.hid (show insB us k regs ⟨14, to, args, num⟩ = false by
                  rw [HI3.out, callB]
                  show ((decide ((0 : Int) ≤ num) && decide (num ≤ (k : Int) - 1)) && _) = _
                  rw [dd]; rfl)
                have HW := Lib.hid (fun W => within_is dd W)
                clear hnr dd
                go_wp2_with fail
                go_quiet (exact Calls.quiet_of_same (HW.out _))
                go_wp2
                go_ret
                exact ⟨ret_bool HI4.out.symm, below_drewN HB2.out _⟩
            · have HI3 := Lib.hid (show insB us k regs ⟨op, to, args, num⟩ = ((num == 0) && ((args.length : Int) == argsN op)) by rw [HI2.out, tailB, if_neg H1.out, if_neg h14])
              have e14 : (op == 14) = false := by simpa using h14
              clear h14
              cases hn0 : num == 0 with
              | false =>
                go_wp2_with fail
                go_quiet (fail)
                go_wp2
                go_ret
                exact ⟨ret_bool (by rw [HI3.out, hn0]; rfl), below_drewN HB2.out _⟩
              | true =>
                go_wp2_with fail
                go_quiet (exact Calls.quiet_of_same (insArgs_any _ _))
                go_wp2
                go_ret
                exact ⟨ret_bool (by rw [HI3.out, hn0]; rfl), below_drewN HB2.out _⟩

end Go.Proofs.Ytajnldkempeheaa
