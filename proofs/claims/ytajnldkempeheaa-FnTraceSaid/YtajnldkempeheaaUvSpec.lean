/-
  The reference's test of an instruction.
-/
import Derived.Test.YtajnldkempeheaaUvUnit

namespace Go.Proofs.Ytajnldkempeheaa
open Go.RowKit

theorem any_take_stop {xs : List Int} {p : Int → Bool} {i : Nat} {x : Int} (hx : xs[i]? = some x) (hp : p x = true) : xs.any p = true := List.any_eq_true.2 ⟨x, List.mem_of_getElem? hx, hp⟩

set_option maxRecDepth 100000 in
set_option maxHeartbeats 1000000 in
theorem l7Regs_any (params regs : Int) (ba : Option Addr) (n bc : Nat) (hr : 0 ≤ regs ∧ regs ≤ 300) (a : Option Addr) (cap : Nat) (xs : List Int) (w : World) (hin : IntsRd w a xs.length xs) (hl : xs.length ≤ 1048576) :
    Calls Try.prog 74 #[.agg #[.int .i64 params, .int .i64 regs, .slice ba n bc], .slice a xs.length cap] w fun e w' => e = .returned (.bool (!xs.any (fun r => !inR regs r))) ∧ Below w.heap.size w w' := by
  have hb0 : Below w.heap.size w (w.alloc (.cells #[.int .i64 params, .int .i64 regs, .slice ba n bc] 37)) := (Below.refl _ _).alloc (Nat.le_refl _) _
  have hc1 : (w.alloc (.cells #[.int .i64 params, .int .i64 regs, .slice ba n bc] 37)).cell? ⟨w.heap.size, 1, none⟩ = some (.int .i64 regs) := cell_of_row _ _ 1 _ _ _ (heap_alloc_new w _)
  have HC := Lib.hid (And.intro (hin.later hb0) (And.intro hb0 hc1))
  clear hin hb0 hc1
  go_enter Try.func74, Try.ntmps74
  go_wp2_with fail
  generalize w.alloc (.cells #[.int .i64 params, .int .i64 regs, .slice ba n bc] 37) = W0 at HC ⊢
  go_loopg [5] xs.length (fun F i wr => ∃ k : Nat, k + F = xs.length ∧ i = .int .i64 k ∧ Hid (Below W0.heap.size W0 wr ∧ (xs.take k).any (fun r => !inR regs r) = false))
  case atStart => exact ⟨0, by omega, rfl, Lib.hid ⟨Below.refl _ _, rfl⟩⟩
  case round =>
    obtain ⟨k, hk, rfl, HK⟩ := hrel
    by_cases hlt : k < xs.length
    · obtain ⟨b, off, x, rfl, hx, hc⟩ := (HC.out.1.later HK.out.1).place hlt
      have r1 := cell_later HK.out.1 HC.out.2.2
      have HX := Lib.hid hx
      clear hx
      cases hin : inR regs x with
      | false =>
        have HN := Lib.hid (show xs.any (fun r => !inR regs r) = true from any_take_stop HX.out (by rw [hin]; rfl))
        have HW := Lib.hid (fun W => l1In_is hin W)
        clear hin
        go_wp2_with fail
        go_quiet (exact Calls.quiet_of_same (HW.out _))
        go_wp2
        go_ret
        exact ⟨ret_bool (by rw [HN.out]; rfl), below_drewN (HC.out.2.1.trans (HK.out.1.mono HC.out.2.1.size)) _⟩
      | true =>
        have HN := Lib.hid (show (xs.take (k + 1)).any (fun r => !inR regs r) = false by rw [take_succ_of HX.out, List.any_append, HK.out.2]; simp [hin])
        have HW := Lib.hid (fun W => l1In_is hin W)
        clear hin
        go_wp2_with fail
        go_quiet (exact Calls.quiet_of_same (HW.out _))
        go_wp2
        go_roundg (gk - 1)
        case measure => omega
        case rel => exact ⟨k + 1, by omega, by go_num, Lib.hid ⟨below_drewN HK.out.1 _, HN.out⟩⟩
    · obtain rfl : k = xs.length := by omega
      have HA := Lib.hid (show xs.any (fun r => !inR regs r) = false by have := HK.out.2; rwa [List.take_length] at this)
      go_wp2
      go_ret
      exact ⟨ret_bool (by rw [HA.out]; rfl), HC.out.2.1.trans (HK.out.1.mono HC.out.2.1.size)⟩

theorem tailB_14 {us : List CodeD} {k : Nat} {ft : Int} {args : List Int} {num : Int} : tailB us k ⟨14, ft, args, num⟩ = callB us k ⟨14, ft, args, num⟩ := by
  rw [tailB, if_neg (show ¬ (14 : Int) = 1 by decide), if_pos rfl]
theorem tailB_else {us : List CodeD} {k : Nat} {op ft : Int} {args : List Int} {num : Int} (hop : isOpB op = true) (h : op ≠ 14) :
    tailB us k ⟨op, ft, args, num⟩ = (((args.length : Int) == argsS op) && (byteB num && ((num == 0) || (op == 1)))) := by
  rw [argsS_of hop h]
  by_cases h1 : op = 1
  · subst h1
    rw [tailB, if_pos rfl]
    simp [argsN]
  · rw [tailB, if_neg h1, if_neg h]
    have e1 : (op == 1) = false := by simpa using h1
    rw [e1, Bool.or_false]
    show ((num == 0) && ((args.length : Int) == argsN op)) = _
    by_cases h0 : num = 0
    · subst h0; simp [byteB]
    · have e0 : (num == 0) = false := by simpa using h0
      simp [e0]

set_option maxRecDepth 100000 in
set_option maxHeartbeats 4000000 in
theorem l7Ins_any (us : List CodeD) (ua : Option Addr) (uc k : Nat) (c : CodeD) (hk : us[k]? = some c) (hr : 0 ≤ c.regs ∧ c.regs ≤ 300) (hn : us.length ≤ 1048576) (cs : List Value) (x : InsD) (hx : x.args.length ≤ 1048576) (w : World) (hU : SliceRd 3 CodeR w ua us.length us) (hR : InsR w cs x) :
    Calls Try.prog 73 #[.agg #[.slice ua us.length uc], .int .i64 k, .agg cs.toArray] w fun e w' => e = .returned (.bool (insB us k c.regs x)) ∧ Below w.heap.size w w' := by
  obtain ⟨aa, ac, rfl, _, hargs⟩ := hR
  have hkl : k < us.length := (List.getElem?_eq_some_iff.1 hk).1
  obtain ⟨ub, uo, params, regs, blocks, ba, bc, rfl, hk2, c0, c1, c2, hCR⟩ := code_place hU hkl
  rw [hk] at hk2
  cases hk2
  obtain ⟨op, ft, args, num⟩ := x
  have HF := Lib.hid (three_blocks w (.cells #[.slice (some ⟨ub, uo, none⟩) us.length uc] 25) (.cells #[.int .i64 op, .int .i64 ft, .slice aa args.length ac, .int .i64 num] 83) (.cells #[.int .i64 params, .int .i64 regs, .slice ba blocks.length bc] 37))
  have hb2 : Below w.heap.size w ((w.alloc (.cells #[.slice (some ⟨ub, uo, none⟩) us.length uc] 25)).alloc (.cells #[.int .i64 op, .int .i64 ft, .slice aa args.length ac, .int .i64 num] 83)) := ((Below.refl _ _).alloc (Nat.le_refl _) _).alloc (by simp) _
  have d0 := cell_later hb2 c0
  have d1 := cell_later hb2 c1
  have d2 := cell_later hb2 c2
  have HC := Lib.hid (And.intro hU (And.intro hargs (And.intro hk (And.intro hr hx))))
  clear c0 c1 c2 hb2
  clear hU hargs hk hr hx hCR
  go_enter Try.func73, Try.ntmps73
  go_wp2_with fail
  generalize (((w.alloc (.cells #[.slice (some ⟨ub, uo, none⟩) us.length uc] 25)).alloc (.cells #[.int .i64 op, .int .i64 ft, .slice aa args.length ac, .int .i64 num] 83)).alloc (.cells #[.int .i64 params, .int .i64 regs, .slice ba blocks.length bc] 37)) = W4 at HF ⊢
  clear d0 d1 d2
  have hfo := HF.out
  have hb4 := hfo.2.2
  have a0 : W4.cell? ⟨w.heap.size, 0, none⟩ = some (.slice (some ⟨ub, uo, none⟩) us.length uc) := cell_of_row _ _ 0 _ _ _ hfo.1.1
  have b0 : W4.cell? ⟨w.heap.size + 1, 0, none⟩ = some (.int .i64 op) := cell_of_row _ _ 0 _ _ _ hfo.1.2
  have b1 : W4.cell? ⟨w.heap.size + 1, 1, none⟩ = some (.int .i64 ft) := cell_of_row _ _ 1 _ _ _ hfo.1.2
  have b2 : W4.cell? ⟨w.heap.size + 1, 2, none⟩ = some (.slice aa args.length ac) := cell_of_row _ _ 2 _ _ _ hfo.1.2
  have b3 : W4.cell? ⟨w.heap.size + 1, 3, none⟩ = some (.int .i64 num) := cell_of_row _ _ 3 _ _ _ hfo.1.2
  have r0 : W4.cell? ⟨w.heap.size + 1 + 1, 0, none⟩ = some (.int .i64 params) := cell_of_row _ _ 0 _ _ _ hfo.1.3
  have r1 : W4.cell? ⟨w.heap.size + 1 + 1, 1, none⟩ = some (.int .i64 regs) := cell_of_row _ _ 1 _ _ _ hfo.1.3
  have r2 : W4.cell? ⟨w.heap.size + 1 + 1, 2, none⟩ = some (.slice ba blocks.length bc) := cell_of_row _ _ 2 _ _ _ hfo.1.3
  have HB := Lib.hid hb4
  clear HF hfo hb4
  cases hio : isOpB op with
  | false =>
    have HI := Lib.hid (show insB us k regs ⟨op, ft, args, num⟩ = false by simp [insB, hio])
    refine (l1In_is hio W4).mono ?_
    clear hio
    rintro e w1 ⟨rfl, rfl⟩
    go_wp2
    go_ret
    exact ⟨ret_bool HI.out.symm, HB.out⟩
  | true =>
    have HIO := Lib.hid hio
    refine (l1In_is hio W4).mono ?_
    clear hio
    rintro e w1 ⟨rfl, rfl⟩
    go_wp2_with fail
    refine (l7Regs_any params regs ba blocks.length bc HC.out.2.2.2.1 aa ac args w1 (HC.out.2.1.later HB.out) HC.out.2.2.2.2).mono ?_
    cases hva : args.any (fun r => !inR regs r) with
    | true =>
      have HI := Lib.hid (show insB us k regs ⟨op, ft, args, num⟩ = false by simp [insB, hva])
      clear hva
      rintro e w2 ⟨rfl, hb2⟩
      go_wp2
      go_ret
      exact ⟨ret_bool HI.out.symm, HB.out.trans (hb2.mono HB.out.size)⟩
    | false =>
      have HI := Lib.hid (show insB us k regs ⟨op, ft, args, num⟩ = (toB regs op ft && tailB us k ⟨op, ft, args, num⟩) by simp [insB, hva, HIO.out])
      clear hva
      rintro e w2 ⟨rfl, hb2⟩
      have a0' := cell_later hb2 a0
      have b0' := cell_later hb2 b0
      have b1' := cell_later hb2 b1
      have b2' := cell_later hb2 b2
      have b3' := cell_later hb2 b3
      have r1' := cell_later hb2 r1
      have HB2 := Lib.hid (HB.out.trans (hb2.mono HB.out.size))
      have hlim := HC.out.2.2.2.1
      clear hb2 a0 b0 b1 b2 b3 r0 r1 r2 HB
      have HM0 := Lib.hid (fun W => l7Makes_any op W)
      cases hm : makesB op with
      | false =>
        have HM := Lib.hid (fun W => (hm ▸ l7Makes_any op W : Calls Try.prog 79 #[.int .i64 op] W fun e w' => e = .returned (.bool false) ∧ w' = W))
        have hop : op ≠ 14 := by
          have h := HIO.out
          rw [makesB, h] at hm
          simp at hm
          omega
        cases hin : inR regs ft with
        | true =>
          have HI2 := Lib.hid (show insB us k regs ⟨op, ft, args, num⟩ = false by
            have : (ft != -1) = true := by simp [inR] at hin; simp; omega
            rw [HI.out, toB, hm, if_neg (by simp), this]; rfl)
          have HW := Lib.hid (fun W => l1In_is hin W)
          clear hm hop hin
          go_wp2_with fail
          go_quiet (first | exact Calls.quiet_of_same (HM.out _) | exact Calls.quiet_of_same (HW.out _))
          go_wp2
          go_ret
          exact ⟨ret_bool HI2.out.symm, below_drewN HB2.out _⟩
        | false =>
          have HW := Lib.hid (fun W => l1In_is hin W)
          cases ht : ft != -1 with
          | true =>
            have HI2 := Lib.hid (show insB us k regs ⟨op, ft, args, num⟩ = false by rw [HI.out, toB, hm, if_neg (by simp), ht]; rfl)
            clear hm hop hin
            go_wp2_with fail
            go_quiet (first | exact Calls.quiet_of_same (HM.out _) | exact Calls.quiet_of_same (HW.out _))
            go_wp2
            go_ret
            exact ⟨ret_bool HI2.out.symm, below_drewN HB2.out _⟩
          | false =>
            have HI2 := Lib.hid (show insB us k regs ⟨op, ft, args, num⟩ = (((args.length : Int) == argsS op) && (byteB num && ((num == 0) || (op == 1)))) by rw [HI.out, toB, hm, if_neg (by simp), ht, tailB_else HIO.out hop]; rfl)
            have e14 : (op == 14) = false := by simpa using hop
            clear hm hop hin
            go_wp2_with fail
            go_quiet (first | exact Calls.quiet_of_same (HM.out _) | exact Calls.quiet_of_same (HW.out _))
            have hb3 := below_drewN HB2.out nq
            have b4 := cell_later (below_drewN (Below.refl w2.heap.size w2) nq) b0'
            have b6 := cell_later (below_drewN (Below.refl w2.heap.size w2) nq) b2'
            have b7 := cell_later (below_drewN (Below.refl w2.heap.size w2) nq) b3'
            clear a0' b0' b1' b2' b3' r1' HW HM HM0
            generalize w2.drewN nq = w5 at hb3 b4 b6 b7 ⊢
            have HB3 := Lib.hid hb3
            clear hb3
            cases hl : ((args.length : Int) == argsS op) with
            | false =>
              go_wp2_with fail
              go_quiet (exact Calls.quiet_of_same (l7Args_any _ _))
              go_wp2
              go_ret
              exact ⟨ret_bool (by rw [HI2.out, hl]; rfl), below_drewN HB3.out _⟩
            | true =>
              cases hby : byteB num with
              | false =>
                have HY := Lib.hid (fun W => l1In_is hby W)
                have HI3 := Lib.hid (show insB us k regs ⟨op, ft, args, num⟩ = false by rw [HI2.out, hl, hby]; rfl)
                clear hby
                go_wp2_with fail
                go_quiet (first | exact Calls.quiet_of_same (l7Args_any _ _) | exact Calls.quiet_of_same (HY.out _))
                go_wp2
                go_ret
                exact ⟨ret_bool HI3.out.symm, below_drewN HB3.out _⟩
              | true =>
                have HY := Lib.hid (fun W => l1In_is hby W)
                have HI3 := Lib.hid (show insB us k regs ⟨op, ft, args, num⟩ = ((num == 0) || (op == 1)) by rw [HI2.out, hl, hby]; rfl)
                clear hby
                cases hn0 : num == 0 with
                | true =>
                  go_wp2_with fail
                  go_quiet (first | exact Calls.quiet_of_same (l7Args_any _ _) | exact Calls.quiet_of_same (HY.out _))
                  go_wp2
                  go_ret
                  exact ⟨ret_bool (by rw [HI3.out, hn0]; rfl), below_drewN HB3.out _⟩
                | false =>
                  go_wp2_with fail
                  go_quiet (first | exact Calls.quiet_of_same (l7Args_any _ _) | exact Calls.quiet_of_same (HY.out _))
                  go_wp2
                  go_ret
                  exact ⟨ret_bool (by rw [HI3.out, hn0]; rfl), below_drewN HB3.out _⟩
      | true =>
        have HM := Lib.hid (fun W => (hm ▸ l7Makes_any op W : Calls Try.prog 79 #[.int .i64 op] W fun e w' => e = .returned (.bool true) ∧ w' = W))
        cases hin : inR regs ft with
        | false =>
          have HI2 := Lib.hid (show insB us k regs ⟨op, ft, args, num⟩ = false by rw [HI.out, toB, hm, if_pos rfl, hin]; rfl)
          have HW := Lib.hid (fun W => l1In_is hin W)
          clear hm hin
          go_wp2_with fail
          go_quiet (first | exact Calls.quiet_of_same (HM.out _) | exact Calls.quiet_of_same (HW.out _))
          go_wp2
          go_ret
          exact ⟨ret_bool HI2.out.symm, below_drewN HB2.out _⟩
        | true =>
          have HI2 := Lib.hid (show insB us k regs ⟨op, ft, args, num⟩ = tailB us k ⟨op, ft, args, num⟩ by rw [HI.out, toB, hm, if_pos rfl, hin]; rfl)
          have HW := Lib.hid (fun W => l1In_is hin W)
          clear hm hin
          go_wp2_with fail
          go_quiet (first | exact Calls.quiet_of_same (HM.out _) | exact Calls.quiet_of_same (HW.out _))
          have hb3 := below_drewN HB2.out nq
          have a1 := cell_later (below_drewN (Below.refl w2.heap.size w2) nq) a0'
          have b4 := cell_later (below_drewN (Below.refl w2.heap.size w2) nq) b0'
          have b6 := cell_later (below_drewN (Below.refl w2.heap.size w2) nq) b2'
          have b7 := cell_later (below_drewN (Below.refl w2.heap.size w2) nq) b3'
          clear a0' b0' b1' b2' b3' r1' HW HM HM0
          generalize w2.drewN nq = w5 at hb3 a1 b4 b6 b7 ⊢
          have HB3 := Lib.hid hb3
          clear hb3
          by_cases h14 : op = 14
          · subst h14
            have HI3 := Lib.hid (show insB us k regs ⟨14, ft, args, num⟩ = callB us k ⟨14, ft, args, num⟩ by rw [HI2.out, tailB_14])
            by_cases hnr : 0 ≤ num ∧ num ≤ (k : Int) - 1
            · obtain ⟨m, rfl⟩ : ∃ m : Nat, num = (m : Int) := ⟨num.toNat, by omega⟩
              have hmk : m < us.length := by omega
              obtain ⟨b9, o9, pm, rm, bm, bam, bcm, hab, hum, g0, _, _, _⟩ := code_place HC.out.1 hmk
              cases hab
              have g0' := cell_later HB3.out g0
              have dd : (decide ((0 : Int) ≤ (m : Int)) && decide ((m : Int) ≤ (k : Int) - 1)) = true := by simp; omega
              have HI4 := Lib.hid (show insB us k regs ⟨14, ft, args, (m : Int)⟩ = ((args.length : Int) == pm) by
                rw [HI3.out, callB]
                show ((decide ((0 : Int) ≤ (m : Int)) && decide ((m : Int) ≤ (k : Int) - 1)) && _) = _
                rw [dd, Int.toNat_natCast, List.getD_eq_getElem?_getD, List.getElem?_map, hum]
                rfl)
              clear g0 hum
              have HW := Lib.hid (fun W => l1In_is dd W)
              have hmi : (m : Int) < (us.length : Int) := by omega
              clear dd
              go_wp2_with fail
              go_quiet (exact Calls.quiet_of_same (HW.out _))
              go_wp2
              go_ret
              exact ⟨ret_bool HI4.out.symm, below_drewN HB3.out _⟩
            · have dd : (decide ((0 : Int) ≤ num) && decide (num ≤ (k : Int) - 1)) = false := by simp; omega
              have HI4 := Lib.hid (show insB us k regs ⟨14, ft, args, num⟩ = false by
                rw [HI3.out, callB]
                show ((decide ((0 : Int) ≤ num) && decide (num ≤ (k : Int) - 1)) && _) = _
                rw [dd]; rfl)
              have HW := Lib.hid (fun W => l1In_is dd W)
              clear hnr dd
              go_wp2_with fail
              go_quiet (exact Calls.quiet_of_same (HW.out _))
              go_wp2
              go_ret
              exact ⟨ret_bool HI4.out.symm, below_drewN HB3.out _⟩
          · have HI2' := Lib.hid (show insB us k regs ⟨op, ft, args, num⟩ = (((args.length : Int) == argsS op) && (byteB num && ((num == 0) || (op == 1)))) by rw [HI2.out, tailB_else HIO.out h14])
            have e14 : (op == 14) = false := by simpa using h14
            clear h14
            cases hl : ((args.length : Int) == argsS op) with
            | false =>
              go_wp2_with fail
              go_quiet (exact Calls.quiet_of_same (l7Args_any _ _))
              go_wp2
              go_ret
              exact ⟨ret_bool (by rw [HI2'.out, hl]; rfl), below_drewN HB3.out _⟩
            | true =>
              cases hby : byteB num with
              | false =>
                have HY := Lib.hid (fun W => l1In_is hby W)
                have HI3 := Lib.hid (show insB us k regs ⟨op, ft, args, num⟩ = false by rw [HI2'.out, hl, hby]; rfl)
                clear hby
                go_wp2_with fail
                go_quiet (first | exact Calls.quiet_of_same (l7Args_any _ _) | exact Calls.quiet_of_same (HY.out _))
                go_wp2
                go_ret
                exact ⟨ret_bool HI3.out.symm, below_drewN HB3.out _⟩
              | true =>
                have HY := Lib.hid (fun W => l1In_is hby W)
                have HI3 := Lib.hid (show insB us k regs ⟨op, ft, args, num⟩ = ((num == 0) || (op == 1)) by rw [HI2'.out, hl, hby]; rfl)
                clear hby
                cases hn0 : num == 0 with
                | true =>
                  go_wp2_with fail
                  go_quiet (first | exact Calls.quiet_of_same (l7Args_any _ _) | exact Calls.quiet_of_same (HY.out _))
                  go_wp2
                  go_ret
                  exact ⟨ret_bool (by rw [HI3.out, hn0]; rfl), below_drewN HB3.out _⟩
                | false =>
                  go_wp2_with fail
                  go_quiet (first | exact Calls.quiet_of_same (l7Args_any _ _) | exact Calls.quiet_of_same (HY.out _))
                  go_wp2
                  go_ret
                  exact ⟨ret_bool (by rw [HI3.out, hn0]; rfl), below_drewN HB3.out _⟩

end Go.Proofs.Ytajnldkempeheaa
