
/-
  How often registers are used: the program's walk.
-/
import Derived.Test.YtkhnhdgbbjppeaaUsesSpec
import Derived.Test.YtkhnhdgbbjppeaaCore
namespace Go.Proofs.Ytkhnhdgbbjppeaa
open Go.RowKit

set_option maxRecDepth 100000 in
set_option maxHeartbeats 1000000 in
theorem usesIn1_any (a : Option Addr) (cap : Nat) (xs A L : List Int) (n g bo : Nat) (w0 w : World) (hin : IntsRd w0 a xs.length xs) (hC : Cnt w0.heap.size g n L w0 w) (hb : w.heap[bo]? = some (.cells #[.slice (some ⟨g, 0, none⟩) n n] 40 (0, 0))) (hbo : bo ≠ g) (hN : Nxt n A (L ++ xs)) :
    Calls Try.prog 104 #[.slice a xs.length cap, .pointer (some ⟨bo, 0, none⟩)] w fun e w' => e = .returned (.tuple #[]) ∧ Cnt w0.heap.size g n (L ++ xs) w0 w' ∧ Turned (fun k => k = g) w w' := by
  have hxl : xs.length ≤ 1048576 := by have h1 := hN.pre.length_le; have h2 := hN.small; simp at h1; omega
  have HB := Lib.hid (And.intro hb (And.intro hC hN))
  have hbl : bo < w.heap.size := (Array.getElem?_eq_some_iff.1 hb).1
  clear hb hC hN
  go_enter Try.func104, Try.ntmps104
  go_wp2
  go_loopg [7] xs.length (fun F i wr => ∃ k : Nat, k + F = xs.length ∧ i = .int .i64 k ∧ Hid (Cnt w0.heap.size g n (L ++ xs.take k) w0 wr ∧ Turned (fun k => k = g) w wr))
  case atStart => exact ⟨0, by omega, rfl, Lib.hid ⟨by simpa using HB.out.2.1, Turned.refl _ _⟩⟩
  case round =>
    obtain ⟨k, hk, rfl, HK⟩ := hrel
    have hb1 : wr.cell? ⟨bo, 0, none⟩ = some (.slice (some ⟨g, 0, none⟩) n n) := cell_of_row _ _ 0 _ _ _ ((HK.out.2.block bo hbl hbo).trans HB.out.1)
    by_cases hlt : k < xs.length
    · obtain ⟨b3, o3, r, rfl, hr, cr⟩ := hin.place hlt
      obtain ⟨rn, rfl, hrn, hLl⟩ := (HB.out.2.2.part (prefix_take_one hr _)).head
      obtain ⟨x, gx, fx, hget, hx0, hx1⟩ := HK.out.1.get hrn
      have cr' := cell_later HK.out.1.below cr
      have hmi : (rn : Int) < (n : Int) := by omega
      have hx2 : x ≤ 1048576 := Int.le_trans hx1 (Int.ofNat_le.2 hLl)
      have HT := Lib.hid (take_succ_of hr)
      have HG := Lib.hid hget
      clear hr cr hget hx1 hLl
      go_wp2
      go_roundg (gk - 1)
      case measure => omega
      case rel => exact ⟨k + 1, by omega, by go_num, Lib.hid ⟨by rw [HT.out, ← List.append_assoc]; exact HK.out.1.put rn HG.out, HK.out.2.trans (turned_store _ _ _ _)⟩⟩
    · obtain rfl : k = xs.length := by omega
      have HE := Lib.hid (show Cnt w0.heap.size g n (L ++ xs) w0 wr from by have h1 := HK.out.1; rw [List.take_length] at h1; exact h1)
      go_wp2
      go_end0
      exact ⟨rfl, HE.out, HK.out.2⟩

set_option maxRecDepth 100000 in
set_option maxHeartbeats 4000000 in
theorem usesIn_any (cs : List Value) (c : CodeD) (w : World) (hR : CodeR w cs c) (hs : szCodeD c ≤ 1048576) (hreg : 0 ≤ c.regs ∧ c.regs ≤ 300) (hargs : ∀ r ∈ codeArgs c, 0 ≤ r ∧ r < c.regs) (hj : ∀ x ∈ c.blocks, x.jump = 1 ∨ x.jump = 2 ∨ x.jump = 3) :
    Calls Try.prog 58 #[.agg cs.toArray] w fun e w' => RetInts w (bumps c.regs.toNat (codeArgs c)) c.regs.toNat e w' := by
  have hmf : ∀ (fn : Fn) (first cap : Array Value) (w : World), (Instr.makeFunc fn first cap).run Try.prog w = .ok (.func fn first cap) w := fun _ _ _ _ => rfl
  have hcl := codeArgs_len c
  obtain ⟨params, regs, blocks⟩ := c
  obtain ⟨ba, bc, rfl, _, hrd⟩ := hR
  have hrd : SliceRd 5 BlockR w ba blocks.length blocks := hrd
  have hreg : 0 ≤ regs ∧ regs ≤ 300 := hreg
  obtain ⟨n, rfl⟩ : ∃ n : Nat, regs = (n : Int) := ⟨regs.toNat, by omega⟩
  have hn : n ≤ 300 := by omega
  have hbl : blocks.length ≤ 1048576 := by unfold szCodeD at hs; exact Nat.le_trans (szS_len szBlockD blocks) hs
  obtain ⟨A, hA⟩ : ∃ A, A = blocks.flatMap blockArgs := ⟨_, rfl⟩
  have hAs : A.length ≤ 1048576 := by rw [hA]; exact Nat.le_trans hcl hs
  have hAi : ∀ r ∈ A, 0 ≤ r ∧ r < (n : Int) := by rw [hA]; exact hargs
  show Calls _ _ _ _ fun e w' => RetInts w (bumps n (blocks.flatMap blockArgs)) n e w'
  rw [← hA]
  have HA := Lib.hid (And.intro hA (And.intro hAs (And.intro hAi hs)))
  have HJ := Lib.hid hj
  obtain ⟨i0, hi, hz0, hz1, hz2⟩ := info_parts info_int
  have hb0 : Below w.heap.size w (w.alloc (.cells #[.int .i64 params, .int .i64 (n : Int), .slice ba blocks.length bc] 51)) := (Below.refl _ _).alloc (Nat.le_refl _) _
  have hC0 := heap_alloc_new w (.cells #[.int .i64 params, .int .i64 (n : Int), .slice ba blocks.length bc] 51)
  have hc1 : (w.alloc (.cells #[.int .i64 params, .int .i64 (n : Int), .slice ba blocks.length bc] 51)).cell? ⟨w.heap.size, 1, none⟩ = some (.int .i64 (n : Int)) := cell_of_row _ _ 1 _ _ _ hC0
  have hc2 : (w.alloc (.cells #[.int .i64 params, .int .i64 (n : Int), .slice ba blocks.length bc] 51)).cell? ⟨w.heap.size, 2, none⟩ = some (.slice ba blocks.length bc) := cell_of_row _ _ 2 _ _ _ hC0
  have hs0 : (w.alloc (.cells #[.int .i64 params, .int .i64 (n : Int), .slice ba blocks.length bc] 51)).heap.size = w.heap.size + 1 := by simp
  have HC := Lib.hid (And.intro hb0 hC0)
  clear hs hcl hA hAs hAi hargs hreg hj hC0
  go_enter Try.func58, Try.ntmps58
  go_wp2_with (at_make; refine wpList_make_full _ rfl _ _ 40 rfl w.heap.size 3 i0 (.int .i64 0) 1 und_ints hi hz0 hz1 _ _ _ _ n rfl rfl rfl rfl (by rw [hz2]; omega) (by unfold maxLen; omega) (by simp) ?_; intro w1 hown hg; (rw [Nat.mul_one, show (Value.int .i64 0).cells = #[Value.int .i64 0] from rfl, toList_madeCells_one, hs0] at hown); (have hb1 : Below w.heap.size w w1 := hb0.trans ((Below.refl _ _).grown hg hb0.size (by simp))); (have HC1 := Lib.hid (show Cnt w.heap.size (w.heap.size + 1) n [] w w1 from ⟨by simpa [bumps] using hown, hb1, by omega⟩)); (have hc2' : w1.cell? ⟨w.heap.size, 2, none⟩ = some (.slice ba blocks.length bc) := cell_of_row _ _ 2 _ _ _ ((hg.block _ (by simp) (by simp)).trans HC.out.2)); (have hsz1 := (hown.lt _ rfl).2); (have hba1 : Below w1.heap.size w1 (w1.alloc (.cells #[.slice (some ⟨w.heap.size + 1, 0, none⟩) n n] 40)) := (Below.refl _ _).alloc (Nat.le_refl _) _); (have hc3 := cell_later hba1 hc2'); (have HB1 := Lib.hid (And.intro (HC1.out.later hba1) (heap_alloc_new w1 (.cells #[.slice (some ⟨w.heap.size + 1, 0, none⟩) n n] 40)))); clear HC1 hc2' hba1; clear hown hg hi hz0 hz1 hz2 hb0 hc1 hc2 hs0 HC hb1)
  clear hc3
  generalize w1.alloc (.cells #[.slice (some ⟨w.heap.size + 1, 0, none⟩) n n] 40) = W1 at HB1 ⊢
  obtain ⟨bo, hbo⟩ : ∃ bo, bo = w1.heap.size := ⟨_, rfl⟩
  rw [← hbo] at HB1 hsz1 ⊢
  clear hbo
  go_loopg [18] blocks.length (fun F i wr => ∃ b : Nat, b + F = blocks.length ∧ i = .int .i64 b ∧ Hid (Cnt w.heap.size (w.heap.size + 1) n ((blocks.take b).flatMap blockArgs) w wr ∧ wr.heap[bo]? = some (.cells #[.slice (some ⟨w.heap.size + 1, 0, none⟩) n n] 40 (0, 0))))
  case atStart => exact ⟨0, by omega, rfl, Lib.hid ⟨HB1.out.1, HB1.out.2⟩⟩
  case round =>
    obtain ⟨b, hb, rfl, HK⟩ := hrel
    clear HB1
    by_cases hlt : b < blocks.length
    · obtain ⟨b1, o1, phis, ins, jump, jon, nx, pa, pc, ia, ic, na, nc, rfl, hx, c0, c1, c2, c3, c4, hR⟩ := block_place hrd hlt
      obtain ⟨_, _, _, _, _, _, hcs, hph, hins, _⟩ := hR
      simp only [List.cons.injEq, Value.slice.injEq, and_true, true_and] at hcs
      obtain ⟨⟨rfl, rfl⟩, ⟨rfl, rfl⟩, rfl, rfl⟩ := hcs
      have hz := szS_get (sz := szBlockD) HA.out.2.2.2 hx
      have hzb := szBlock_parts hz.1
      have hpl : phis.length ≤ 1048576 := Nat.le_trans (szS_len szPhiD phis) hzb.1
      have hil : ins.length ≤ 1048576 := Nat.le_trans (szS_len szInsD ins) hzb.2.1
      have d0 := cell_later HK.out.1.below c0
      have d1 := cell_later HK.out.1.below c1
      have d2 := cell_later HK.out.1.below c2
      have d3 := cell_later HK.out.1.below c3
      have d4 := cell_later HK.out.1.below c4
      have hjm := HJ.out _ (List.mem_of_getElem? hx)
      have hjm : jump = 1 ∨ jump = 2 ∨ jump = 3 := hjm
      have hpre := prefix_take_flat (f := blockArgs) hx []
      simp only [List.nil_append] at hpre
      have HXB := Lib.hid hx
      obtain ⟨P, hP⟩ : ∃ P, P = (blocks.take b).flatMap blockArgs := ⟨_, rfl⟩
      rw [← hP] at HK hpre
      have HPP := Lib.hid hP
      have HN := Lib.hid (show Nxt n A (P ++ blockArgs ⟨phis, ins, jump, jon, nx⟩) from ⟨by rw [HA.out.1]; exact hpre, HA.out.2.1, HA.out.2.2.1⟩)
      have hbx : bo < wr.heap.size := (Array.getElem?_eq_some_iff.1 HK.out.2).1
      have hba : Below wr.heap.size wr (wr.alloc (.cells #[.slice pa phis.length pc, .slice ia ins.length ic, .int .i64 jump, .int .i64 jon, .slice na nx.length nc] 70)) := (Below.refl _ _).alloc (Nat.le_refl _) _
      have hrow := heap_alloc_new wr (.cells #[.slice pa phis.length pc, .slice ia ins.length ic, .int .i64 jump, .int .i64 jon, .slice na nx.length nc] 70)
      have q0 : (wr.alloc (.cells #[.slice pa phis.length pc, .slice ia ins.length ic, .int .i64 jump, .int .i64 jon, .slice na nx.length nc] 70)).cell? ⟨wr.heap.size, 0, none⟩ = some (.slice pa phis.length pc) := cell_of_row _ _ 0 _ _ _ hrow
      have HB := Lib.hid (And.intro (HK.out.1.later hba) (And.intro ((hba.block _ (by omega)).trans HK.out.2) hrow))
      clear hx c0 c1 c2 c3 c4 hpre hP hz hzb HK hba hrow
      go_wp2_with fail
      generalize wr.alloc (.cells #[.slice pa phis.length pc, .slice ia ins.length ic, .int .i64 jump, .int .i64 jon, .slice na nx.length nc] 70) = wa at HB ⊢
      obtain ⟨bx, hbxe⟩ : ∃ bx, bx = wr.heap.size := ⟨_, rfl⟩
      rw [← hbxe] at HB hbx ⊢
      clear hbxe d0 d1 d2 d3 d4 q0
      go_loopg [25] phis.length (fun F i wq => ∃ k : Nat, k + F = phis.length ∧ i = .int .i64 k ∧ Hid (Cnt w.heap.size (w.heap.size + 1) n (P ++ phiArgs (phis.take k)) w wq ∧ wq.heap[bo]? = some (.cells #[.slice (some ⟨w.heap.size + 1, 0, none⟩) n n] 40) ∧ wq.heap[bx]? = some (.cells #[.slice pa phis.length pc, .slice ia ins.length ic, .int .i64 jump, .int .i64 jon, .slice na nx.length nc] 70)))
      case atStart => exact ⟨0, by omega, rfl, Lib.hid ⟨by simpa [phiArgs] using HB.out.1, HB.out.2.1, HB.out.2.2⟩⟩
      case round =>
        obtain ⟨k, hk, rfl, HQ⟩ := hrel
        clear HB
        by_cases hlt2 : k < phis.length
        · obtain ⟨b2, o2, tr, args, aa, ac, rfl, hxp, e0, e1, hRp⟩ := phi_place hph.2 hlt2
          obtain ⟨_, _, hcs, _, hra⟩ := hRp
          simp only [List.cons.injEq, Value.slice.injEq, and_true, true_and] at hcs
          obtain ⟨rfl, rfl⟩ := hcs
          have hra : IntsRd w aa args.length args := hra
          have hpre := prefix_take_flat (f := fun f => f.args) hxp P
          have HP2 := Lib.hid (HN.out.part1 hpre)
          have HX2 := Lib.hid hxp
          have f0 := cell_later HQ.out.1.below e0
          have f1 := cell_later HQ.out.1.below e1
          have hba : Below wr.heap.size wr (wr.alloc (.cells #[.int .i64 tr, .slice aa args.length ac] 107)) := (Below.refl _ _).alloc (Nat.le_refl _) _
          have hwo : bo < wr.heap.size := (Array.getElem?_eq_some_iff.1 HQ.out.2.1).1
          have hwb : bx < wr.heap.size := (Array.getElem?_eq_some_iff.1 HQ.out.2.2).1
          have hp1 : (wr.alloc (.cells #[.int .i64 tr, .slice aa args.length ac] 107)).cell? ⟨wr.heap.size, 1, none⟩ = some (.slice aa args.length ac) := cell_of_row _ _ 1 _ _ _ (heap_alloc_new wr _)
          have HQ1 := Lib.hid (And.intro (HQ.out.1.later hba) (And.intro ((hba.block _ hwo).trans HQ.out.2.1) ((hba.block _ hwb).trans HQ.out.2.2)))
          have hwa := hba.size
          clear hxp hpre e0 e1 HQ hba
          go_wp2_with fail
          generalize wr.alloc (.cells #[.int .i64 tr, .slice aa args.length ac] 107) = wa at HQ1 hp1 hwa ⊢
          refine (usesIn1_any aa ac args A _ n (w.heap.size + 1) bo w wa hra HQ1.out.1 HQ1.out.2.1 (by omega) HP2.out).mono ?_
          rintro e w2 ⟨rfl, hC2, hT2⟩
          have HQ2 := Lib.hid (And.intro hC2 (And.intro ((hT2.block _ (by omega) (by omega)).trans HQ1.out.2.1) ((hT2.block bx (by omega) (by omega)).trans HQ1.out.2.2)))
          clear hC2 hT2 HQ1 hwa hwo hwb
          go_wp2
          go_roundg (gk - 1)
          case measure => omega
          case rel => exact ⟨k + 1, by omega, by go_num, Lib.hid ⟨by have h1 := HQ2.out.1; rw [List.append_assoc] at h1; rw [phiArgs, flat_succ HX2.out]; exact h1, HQ2.out.2.1, HQ2.out.2.2⟩⟩
        · obtain rfl : k = phis.length := by omega
          have HB := Lib.hid (show Cnt w.heap.size (w.heap.size + 1) n (P ++ phiArgs phis) w wr ∧ wr.heap[bo]? = some (.cells #[.slice (some ⟨w.heap.size + 1, 0, none⟩) n n] 40) ∧ wr.heap[bx]? = some (.cells #[.slice pa phis.length pc, .slice ia ins.length ic, .int .i64 jump, .int .i64 jon, .slice na nx.length nc] 70) from by have h1 := HQ.out; rw [List.take_length] at h1; exact h1)
          obtain ⟨P2, hP2⟩ : ∃ P2, P2 = P ++ phiArgs phis := ⟨_, rfl⟩
          rw [← hP2] at HB
          have HP3 := Lib.hid hP2
          have q1 : wr.cell? ⟨bx, 1, none⟩ = some (.slice ia ins.length ic) := cell_of_row _ _ 1 _ _ _ HB.out.2.2
          clear hP2 HQ
          go_wp2_with fail
          clear q1
          go_loopg [37] ins.length (fun F i wq => ∃ k : Nat, k + F = ins.length ∧ i = .int .i64 k ∧ Hid (Cnt w.heap.size (w.heap.size + 1) n (P2 ++ insArgsL (ins.take k)) w wq ∧ wq.heap[bo]? = some (.cells #[.slice (some ⟨w.heap.size + 1, 0, none⟩) n n] 40) ∧ wq.heap[bx]? = some (.cells #[.slice pa phis.length pc, .slice ia ins.length ic, .int .i64 jump, .int .i64 jon, .slice na nx.length nc] 70)))
          case atStart => exact ⟨0, by omega, rfl, Lib.hid ⟨by simpa [insArgsL] using HB.out.1, HB.out.2.1, HB.out.2.2⟩⟩
          case round =>
            obtain ⟨k, hk, rfl, HQ⟩ := hrel
            clear HB
            by_cases hlt2 : k < ins.length
            · obtain ⟨b2, o2, op, tr, args, num, aa, ac, rfl, hxp, e0, e1, e2, e3, hRp⟩ := ins_place hins.2 hlt2
              obtain ⟨_, _, hcs, _, hra⟩ := hRp
              simp only [List.cons.injEq, Value.slice.injEq, and_true, true_and] at hcs
              obtain ⟨rfl, rfl⟩ := hcs
              have hra : IntsRd w aa args.length args := hra
              have hpre := prefix_take_flat (f := fun f => f.args) hxp P2
              have HP2 := Lib.hid (HN.out.part2 HP3.out hpre)
              have HX2 := Lib.hid hxp
              have f0 := cell_later HQ.out.1.below e0
              have f1 := cell_later HQ.out.1.below e1
              have f2 := cell_later HQ.out.1.below e2
              have f3 := cell_later HQ.out.1.below e3
              have hba : Below wr.heap.size wr (wr.alloc (.cells #[.int .i64 op, .int .i64 tr, .slice aa args.length ac, .int .i64 num] 72)) := (Below.refl _ _).alloc (Nat.le_refl _) _
              have hwo : bo < wr.heap.size := (Array.getElem?_eq_some_iff.1 HQ.out.2.1).1
              have hwb : bx < wr.heap.size := (Array.getElem?_eq_some_iff.1 HQ.out.2.2).1
              have hp2 : (wr.alloc (.cells #[.int .i64 op, .int .i64 tr, .slice aa args.length ac, .int .i64 num] 72)).cell? ⟨wr.heap.size, 2, none⟩ = some (.slice aa args.length ac) := cell_of_row _ _ 2 _ _ _ (heap_alloc_new wr _)
              have HQ1 := Lib.hid (And.intro (HQ.out.1.later hba) (And.intro ((hba.block _ hwo).trans HQ.out.2.1) ((hba.block _ hwb).trans HQ.out.2.2)))
              have hwa := hba.size
              clear hxp hpre e0 e1 e2 e3 HQ hba
              go_wp2_with fail
              generalize wr.alloc (.cells #[.int .i64 op, .int .i64 tr, .slice aa args.length ac, .int .i64 num] 72) = wa at HQ1 hp2 hwa ⊢
              refine (usesIn1_any aa ac args A _ n (w.heap.size + 1) bo w wa hra HQ1.out.1 HQ1.out.2.1 (by omega) HP2.out).mono ?_
              rintro e w2 ⟨rfl, hC2, hT2⟩
              have HQ2 := Lib.hid (And.intro hC2 (And.intro ((hT2.block _ (by omega) (by omega)).trans HQ1.out.2.1) ((hT2.block bx (by omega) (by omega)).trans HQ1.out.2.2)))
              clear hC2 hT2 HQ1 hwa hwo hwb
              go_wp2
              go_roundg (gk - 1)
              case measure => omega
              case rel => exact ⟨k + 1, by omega, by go_num, Lib.hid ⟨by have h1 := HQ2.out.1; rw [List.append_assoc] at h1; rw [insArgsL, flat_succ HX2.out]; exact h1, HQ2.out.2.1, HQ2.out.2.2⟩⟩
            · obtain rfl : k = ins.length := by omega
              have HE := Lib.hid (show Cnt w.heap.size (w.heap.size + 1) n (P2 ++ insArgsL ins) w wr ∧ wr.heap[bo]? = some (.cells #[.slice (some ⟨w.heap.size + 1, 0, none⟩) n n] 40) ∧ wr.heap[bx]? = some (.cells #[.slice pa phis.length pc, .slice ia ins.length ic, .int .i64 jump, .int .i64 jon, .slice na nx.length nc] 70) from by have h1 := HQ.out; rw [List.take_length] at h1; exact h1)
              have q2 : wr.cell? ⟨bx, 2, none⟩ = some (.int .i64 jump) := cell_of_row _ _ 2 _ _ _ HQ.out.2.2
              have q3 : wr.cell? ⟨bx, 3, none⟩ = some (.int .i64 jon) := cell_of_row _ _ 3 _ _ _ HQ.out.2.2
              have q4 : wr.cell? ⟨bo, 0, none⟩ = some (.slice (some ⟨w.heap.size + 1, 0, none⟩) n n) := cell_of_row _ _ 0 _ _ _ HQ.out.2.1
              clear HQ
              by_cases h1 : jump = 1
              · have e1 : usesJ jump = false := by rw [h1]; rfl
                have HO := Lib.hid (show onArgs ⟨phis, ins, jump, jon, nx⟩ = [] by rw [onArgs, h1]; rfl)
                clear h1 hjm
                go_wp2_with fail
                refine (usesOn_any jump wr).mono ?_
                rw [e1]
                rintro e w2 ⟨rfl, rfl⟩
                go_wp2
                go_roundg (blocks.length - (b + 1))
                case measure => omega
                case rel => exact ⟨b + 1, by omega, by go_num, Lib.hid ⟨by rw [flat_succ HXB.out, ← HPP.out, blockArgs, HO.out, List.append_nil, ← List.append_assoc, ← HP3.out]; exact HE.out.1, HE.out.2.1⟩⟩
              · have e1 : usesJ jump = true := by rcases hjm with h | h | h <;> first | exact absurd h h1 | (rw [h]; rfl)
                have HO := Lib.hid (show onArgs ⟨phis, ins, jump, jon, nx⟩ = [jon] by rw [onArgs]; exact if_pos e1)
                have HO2 := Lib.hid (show P ++ blockArgs ⟨phis, ins, jump, jon, nx⟩ = P2 ++ insArgsL ins ++ [jon] by rw [blockArgs, HO.out, ← List.append_assoc, ← List.append_assoc, ← HP3.out])
                have HN2 := HN.out
                rw [HO2.out] at HN2
                obtain ⟨rn, rfl, hrn, hLl⟩ := HN2.head
                obtain ⟨x, gx, fx, hget, hx0, hx1⟩ := HE.out.1.get hrn
                have hmi : (rn : Int) < (n : Int) := by omega
                have hx2 : x ≤ 1048576 := by omega
                have HG := Lib.hid hget
                clear h1 hjm HN2 hget hx1 hLl
                go_wp2_with fail
                refine (usesOn_any jump wr).mono ?_
                rw [e1]
                rintro e w2 ⟨rfl, rfl⟩
                go_wp2
                go_roundg (blocks.length - (b + 1))
                case measure => omega
                case rel => exact ⟨b + 1, by omega, by go_num, Lib.hid ⟨by rw [flat_succ HXB.out, ← HPP.out, HO2.out]; exact HE.out.1.put rn HG.out, (heap_setCell_other _ _ _ _ (by simp; omega)).trans HE.out.2.1⟩⟩
    · obtain rfl : b = blocks.length := by omega
      have q4 : wr.cell? ⟨bo, 0, none⟩ = some (.slice (some ⟨w.heap.size + 1, 0, none⟩) n n) := cell_of_row _ _ 0 _ _ _ HK.out.2
      go_wp2
      go_ret
      have h1 := HK.out.1
      rw [List.take_length, ← HA.out.1] at h1
      exact ⟨_, _, rfl, h1.own, h1.below⟩

end Go.Proofs.Ytkhnhdgbbjppeaa
