
/-
  How often registers are used: the reference's walk.
-/
import Derived.Test.YtkhnhdgbbjppeaaUses
import Derived.StillTailTactics
namespace Go.Proofs.Ytkhnhdgbbjppeaa
open Go.RowKit

/-- The counts of the numbers L, in a row of the call's own. -/
structure Cnt (lo g n : Nat) (L : List Int) (w wr : World) : Prop where
  own : wr.ownsRow lo 3 1 (.slice (some ⟨g, 0, none⟩) n n) n ((bumps n L).map (Value.int .i64))
  below : Below lo w wr
  lo : lo ≤ g
theorem Cnt.later {lo g n : Nat} {L : List Int} {w wr w' : World} (h : Cnt lo g n L w wr) (hb : Below wr.heap.size wr w') : Cnt lo g n L w w' :=
  ⟨ownsRow_below h.own hb, h.below.trans (hb.mono (by have := h.own.lt g rfl; omega)), h.lo⟩
theorem Cnt.drew {lo g n : Nat} {L : List Int} {w wr : World} (h : Cnt lo g n L w wr) : Cnt lo g n L w wr.drew := ⟨h.own.drew, h.below.drew, h.lo⟩
theorem Cnt.put {lo g n : Nat} {L : List Int} {w wr : World} (h : Cnt lo g n L w wr) (r : Nat) {x : Int} (hx : (bumps n L).getD r 0 = x) : Cnt lo g n (L ++ [(r : Int)]) w (wr.setCell ⟨g, r, none⟩ (.int .i64 (x + 1))) := by
  refine ⟨?_, h.below.setCell h.lo _, h.lo⟩
  have h1 := (h.own.stored r (.int .i64 (x + 1))).1
  rw [bumps_snoc, bump, Int.toNat_natCast, hx, List.map_set]
  exact h1
theorem Cnt.get {lo g n : Nat} {L : List Int} {w wr : World} (h : Cnt lo g n L w wr) {r : Nat} (hr : r < n) : ∃ x : Int, wr.cell? ⟨g, r, none⟩ = some (.int .i64 x) ∧ wr.frozen? ⟨g, r, none⟩ = false ∧ (bumps n L).getD r 0 = x ∧ 0 ≤ x ∧ x ≤ L.length := by
  obtain ⟨x, h1, h2, h3, h4⟩ := bumps_get (n := n) L (r := (r : Int)) (by omega) (by omega)
  rw [Int.toNat_natCast] at h1 h2
  refine ⟨x, ?_, h.own.frozenAt r, h2, h3, h4⟩
  rw [h.own.cellAt r (by omega), List.getElem?_map, h1]; rfl
/-- The numbers that come next in a list of numbers below n. -/
structure Nxt (n : Nat) (A L : List Int) : Prop where
  pre : L <+: A
  small : A.length ≤ 1048576
  inn : ∀ r ∈ A, 0 ≤ r ∧ r < (n : Int)
theorem Nxt.head {n : Nat} {A L : List Int} {r : Int} (h : Nxt n A (L ++ [r])) : ∃ m : Nat, r = (m : Int) ∧ m < n ∧ L.length ≤ 1048576 := by
  have h1 := h.inn r (h.pre.subset (by simp))
  have h2 := h.pre.length_le
  have h3 := h.small
  simp at h2
  exact ⟨r.toNat, by omega, by omega, by omega⟩
theorem Nxt.part {n : Nat} {A L M : List Int} (h : Nxt n A L) (hM : M <+: L) : Nxt n A M := ⟨hM.trans h.pre, h.small, h.inn⟩
theorem prefix_take_flat {α : Type} {f : α → List Int} {xs : List α} {i : Nat} {x : α} (h : xs[i]? = some x) (L : List Int) : L ++ (xs.take i).flatMap f ++ f x <+: L ++ xs.flatMap f := by
  rw [List.append_assoc, ← flat_succ h]
  refine (List.prefix_append_right_inj _).2 ?_
  conv => rhs; rw [← List.take_append_drop (i + 1) xs, List.flatMap_append]
  exact List.prefix_append _ _
theorem prefix_take_one {xs : List Int} {i : Nat} {x : Int} (h : xs[i]? = some x) (L : List Int) : L ++ xs.take i ++ [x] <+: L ++ xs := by
  rw [List.append_assoc, ← take_succ_of h]
  exact (List.prefix_append_right_inj _).2 (List.take_prefix _ _)
theorem prefix_mid (L M N : List Int) : L ++ M <+: L ++ (M ++ N) := (List.prefix_append_right_inj _).2 (List.prefix_append _ _)
theorem Nxt.part1 {n : Nat} {A P Q : List Int} {fs : List PhiD} {is : List InsD} {j o : Int} {x : List Int} (h : Nxt n A (P ++ blockArgs ⟨fs, is, j, o, x⟩)) (hQ : Q <+: P ++ fs.flatMap (fun f => f.args)) : Nxt n A Q :=
  h.part (hQ.trans (by rw [blockArgs, List.append_assoc (phiArgs fs)]; exact prefix_mid P _ _))
theorem Nxt.part2 {n : Nat} {A P Q : List Int} {fs : List PhiD} {is : List InsD} {j o : Int} {x : List Int} (h : Nxt n A (P ++ blockArgs ⟨fs, is, j, o, x⟩)) {P2 : List Int} (hP2 : P2 = P ++ phiArgs fs) (hQ : Q <+: P2 ++ is.flatMap (fun f => f.args)) : Nxt n A Q :=
  h.part (hQ.trans (by rw [hP2, blockArgs, List.append_assoc P, List.append_assoc (phiArgs fs)]; exact ⟨onArgs ⟨fs, is, j, o, x⟩, by simp [insArgsL]⟩))
theorem szPhi_args {fs : List PhiD} {k : Nat} {tr : Int} {args : List Int} (h : szS szPhiD fs ≤ 1048576) (hx : fs[k]? = some ⟨tr, args⟩) : args.length ≤ 1048576 := (szS_get (sz := szPhiD) h hx).1
theorem szIns_args {is : List InsD} {k : Nat} {op tr num : Int} {args : List Int} (h : szS szInsD is ≤ 1048576) (hx : is[k]? = some ⟨op, tr, args, num⟩) : args.length ≤ 1048576 := (szS_get (sz := szInsD) h hx).1

set_option maxRecDepth 100000 in
set_option maxHeartbeats 4000000 in
theorem l13Uses_any (cs : List Value) (c : CodeD) (w : World) (hR : CodeR w cs c) (hs : szCodeD c ≤ 1048576) (hreg : 0 ≤ c.regs ∧ c.regs ≤ 300) (hargs : ∀ r ∈ codeArgs c, 0 ≤ r ∧ r < c.regs) (hj : ∀ x ∈ c.blocks, x.jump = 1 ∨ x.jump = 2 ∨ x.jump = 3) :
    Calls Try.prog 55 #[.agg cs.toArray] w fun e w' => RetInts w (bumps c.regs.toNat (codeArgs c)) c.regs.toNat e w' := by
  have hcl := codeArgs_len c
  obtain ⟨params, regs, blocks⟩ := c
  obtain ⟨ba, bc, rfl, _, hrd⟩ := hR
  have hrd : SliceRd 5 BlockR w ba blocks.length blocks := hrd
  have hreg : 0 ≤ regs ∧ regs ≤ 300 := hreg
  obtain ⟨n, rfl⟩ : ∃ n : Nat, regs = (n : Int) := ⟨regs.toNat, by omega⟩
  have hn : n ≤ 300 := by omega
  have hbl : blocks.length ≤ 1048576 := by unfold szCodeD at hs; exact Nat.le_trans (szS_len szBlockD blocks) hs
  obtain ⟨A, hA⟩ : ∃ A, A = blocks.flatMap blockArgs := ⟨_, rfl⟩
  have hAs : A.length ≤ 1048576 := by rw [hA]; exact Nat.le_trans hcl hs
  have hAi : ∀ r ∈ A, 0 ≤ r ∧ r < (n : Int) := by rw [hA]; exact hargs
  show Calls _ _ _ _ fun e w' => RetInts w (bumps n (blocks.flatMap blockArgs)) n e w'
  rw [← hA]
  have HA := Lib.hid (And.intro hA (And.intro hAs (And.intro hAi hs)))
  have HJ := Lib.hid hj
  obtain ⟨i0, hi, hz0, hz1, hz2⟩ := info_parts info_int
  have hb0 : Below w.heap.size w (w.alloc (.cells #[.int .i64 params, .int .i64 (n : Int), .slice ba blocks.length bc] 51)) := (Below.refl _ _).alloc (Nat.le_refl _) _
  have hC0 := heap_alloc_new w (.cells #[.int .i64 params, .int .i64 (n : Int), .slice ba blocks.length bc] 51)
  have hc1 : (w.alloc (.cells #[.int .i64 params, .int .i64 (n : Int), .slice ba blocks.length bc] 51)).cell? ⟨w.heap.size, 1, none⟩ = some (.int .i64 (n : Int)) := cell_of_row _ _ 1 _ _ _ hC0
  have hs0 : (w.alloc (.cells #[.int .i64 params, .int .i64 (n : Int), .slice ba blocks.length bc] 51)).heap.size = w.heap.size + 1 := by simp
  have HC := Lib.hid (And.intro hb0 hC0)
  clear hs hcl hA hAs hAi hargs hreg hj hC0
  go_enter Try.func55, Try.ntmps55
  go_wp2_with (at_make; refine wpList_make_full _ rfl _ _ 40 rfl w.heap.size 3 i0 (.int .i64 0) 1 und_ints hi hz0 hz1 _ _ _ _ n rfl rfl rfl rfl (by rw [hz2]; omega) (by unfold maxLen; omega) (by simp) ?_; intro w1 hown hg)
  rw [Nat.mul_one, show (Value.int .i64 0).cells = #[Value.int .i64 0] from rfl, toList_madeCells_one, hs0] at hown
  have hb1 : Below w.heap.size w w1 := hb0.trans ((Below.refl _ _).grown hg hb0.size (by simp))
  have HC1 := Lib.hid (show Cnt w.heap.size (w.heap.size + 1) n [] w w1 from ⟨by simpa [bumps] using hown, hb1, by omega⟩)
  have hk1 : w1.heap[w.heap.size]? = some (.cells #[.int .i64 params, .int .i64 (n : Int), .slice ba blocks.length bc] 51) := (hg.block _ (by simp) (by simp)).trans HC.out.2
  have HR1 := Lib.hid hk1
  have hz1 : w.heap.size + 1 < w1.heap.size := (hown.lt _ rfl).2
  clear hown hg hi hz0 hz1 hz2 hb0 hc1 hs0 HC hk1 hb1
  go_loopg [4] blocks.length (fun F i wr => ∃ b : Nat, b + F = blocks.length ∧ i = .int .i64 b ∧ Hid (Cnt w.heap.size (w.heap.size + 1) n ((blocks.take b).flatMap blockArgs) w wr ∧ wr.heap[w.heap.size]? = some (.cells #[.int .i64 params, .int .i64 (n : Int), .slice ba blocks.length bc] 51)))
  case atStart => exact ⟨0, by omega, rfl, Lib.hid ⟨HC1.out, HR1.out⟩⟩
  case round =>
    obtain ⟨b, hb, rfl, HK⟩ := hrel
    clear HC1 HR1
    have k2 : wr.cell? ⟨w.heap.size, 2, none⟩ = some (.slice ba blocks.length bc) := cell_of_row _ _ 2 _ _ _ HK.out.2
    by_cases hlt : b < blocks.length
    · obtain ⟨b1, o1, phis, ins, jump, jon, nx, pa, pc, ia, ic, na, nc, rfl, hx, c0, c1, c2, c3, c4, hR⟩ := block_place hrd hlt
      obtain ⟨_, _, _, _, _, _, hcs, hph, hins, _⟩ := hR
      simp only [List.cons.injEq, Value.slice.injEq, and_true, true_and] at hcs
      obtain ⟨⟨rfl, rfl⟩, ⟨rfl, rfl⟩, rfl, rfl⟩ := hcs
      have hz := szS_get (sz := szBlockD) HA.out.2.2.2 hx
      have hzb := szBlock_parts hz.1
      have hpl : phis.length ≤ 1048576 := Nat.le_trans (szS_len szPhiD phis) hzb.1
      have hil : ins.length ≤ 1048576 := Nat.le_trans (szS_len szInsD ins) hzb.2.1
      have HZ := Lib.hid (And.intro hzb.1 hzb.2.1)
      have d0 := cell_later HK.out.1.below c0
      have d1 := cell_later HK.out.1.below c1
      have d2 := cell_later HK.out.1.below c2
      have d3 := cell_later HK.out.1.below c3
      have d4 := cell_later HK.out.1.below c4
      have hjm := HJ.out _ (List.mem_of_getElem? hx)
      have hjm : jump = 1 ∨ jump = 2 ∨ jump = 3 := hjm
      have hpre := prefix_take_flat (f := blockArgs) hx []
      simp only [List.nil_append] at hpre
      have HXB := Lib.hid hx
      obtain ⟨P, hP⟩ : ∃ P, P = (blocks.take b).flatMap blockArgs := ⟨_, rfl⟩
      rw [← hP] at HK hpre
      have HPP := Lib.hid hP
      have HN := Lib.hid (show Nxt n A (P ++ blockArgs ⟨phis, ins, jump, jon, nx⟩) from ⟨by rw [HA.out.1]; exact hpre, HA.out.2.1, HA.out.2.2.1⟩)
      have hbx : w.heap.size + 1 < wr.heap.size := (HK.out.1.own.lt _ rfl).2
      have hba : Below wr.heap.size wr (wr.alloc (.cells #[.slice pa phis.length pc, .slice ia ins.length ic, .int .i64 jump, .int .i64 jon, .slice na nx.length nc] 70)) := (Below.refl _ _).alloc (Nat.le_refl _) _
      have HB := Lib.hid (And.intro (HK.out.1.later hba) (And.intro ((hba.block _ (by omega)).trans HK.out.2) (heap_alloc_new wr (.cells #[.slice pa phis.length pc, .slice ia ins.length ic, .int .i64 jump, .int .i64 jon, .slice na nx.length nc] 70))))
      clear hx c0 c1 c2 c3 c4 hpre hP hz hzb HK hba
      go_wp2_with fail
      generalize wr.alloc (.cells #[.slice pa phis.length pc, .slice ia ins.length ic, .int .i64 jump, .int .i64 jon, .slice na nx.length nc] 70) = wa at HB ⊢
      obtain ⟨bx, hbxe⟩ : ∃ bx, bx = wr.heap.size := ⟨_, rfl⟩
      rw [← hbxe] at HB hbx ⊢
      clear hbxe d0 d1 d2 d3 d4 k2
      go_loopg [6] phis.length (fun F i wq => ∃ k : Nat, k + F = phis.length ∧ i = .int .i64 k ∧ Hid (Cnt w.heap.size (w.heap.size + 1) n (P ++ phiArgs (phis.take k)) w wq ∧ wq.heap[w.heap.size]? = some (.cells #[.int .i64 params, .int .i64 (n : Int), .slice (some ⟨b1, o1, none⟩) blocks.length bc] 51) ∧ wq.heap[bx]? = some (.cells #[.slice pa phis.length pc, .slice ia ins.length ic, .int .i64 jump, .int .i64 jon, .slice na nx.length nc] 70)))
      case atStart => exact ⟨0, by omega, rfl, Lib.hid ⟨by simpa [phiArgs] using HB.out.1, HB.out.2.1, HB.out.2.2⟩⟩
      case round =>
        obtain ⟨k, hk, rfl, HQ⟩ := hrel
        clear HB
        have q0 : wr.cell? ⟨bx, 0, none⟩ = some (.slice pa phis.length _) := cell_of_row _ _ 0 _ _ _ HQ.out.2.2
        by_cases hlt2 : k < phis.length
        · obtain ⟨b2, o2, tr, args, aa, ac, rfl, hxp, e0, e1, hRp⟩ := phi_place hph.2 hlt2
          obtain ⟨_, _, hcs, _, hra⟩ := hRp
          simp only [List.cons.injEq, Value.slice.injEq, and_true, true_and] at hcs
          obtain ⟨rfl, rfl⟩ := hcs
          have hra : IntsRd w aa args.length args := hra
          have hal : args.length ≤ 1048576 := szPhi_args HZ.out.1 hxp
          have hpre := prefix_take_flat (f := fun f => f.args) hxp P
          have HP2 := Lib.hid (HN.out.part1 hpre)
          have HX2 := Lib.hid hxp
          have f1 := cell_later HQ.out.1.below e1
          have HE := Lib.hid e1
          clear hxp hpre e0 e1
          go_wp2_with fail
          clear q0 f1
          obtain ⟨wb, hwb⟩ : ∃ wb, wb = wr := ⟨_, rfl⟩
          subst hwb
          go_loopg [7] args.length (fun F i wq => ∃ m : Nat, m + F = args.length ∧ i = .int .i64 m ∧ Hid (Cnt w.heap.size (w.heap.size + 1) n (P ++ phiArgs (phis.take k) ++ args.take m) w wq ∧ wq.heap[w.heap.size]? = some (.cells #[.int .i64 params, .int .i64 (n : Int), .slice (some ⟨b1, o1, none⟩) blocks.length bc] 51) ∧ wq.heap[bx]? = some (.cells #[.slice (some ⟨b2, o2, none⟩) phis.length pc, .slice ia ins.length ic, .int .i64 jump, .int .i64 jon, .slice na nx.length nc] 70)))
          case atStart => exact ⟨0, by omega, rfl, Lib.hid ⟨by simpa using HQ.out.1, HQ.out.2.1, HQ.out.2.2⟩⟩
          case round =>
            obtain ⟨m, hm, rfl, HS⟩ := hrel
            have q0 : wr.cell? ⟨bx, 0, none⟩ = some (.slice (some ⟨b2, o2, none⟩) phis.length _) := cell_of_row _ _ 0 _ _ _ HS.out.2.2
            have f1 := cell_later HS.out.1.below HE.out
            by_cases hlt3 : m < args.length
            · obtain ⟨b3, o3, r, rfl, hr, cr⟩ := hra.place hlt3
              obtain ⟨rn, rfl, hrn, hLl⟩ := (HP2.out.part (prefix_take_one hr _)).head
              obtain ⟨x, gx, fx, hget, hx0, hx1⟩ := HS.out.1.get hrn
              have cr' := cell_later HS.out.1.below cr
              have hmi : (rn : Int) < (n : Int) := by omega
              have hx2 : x ≤ 1048576 := Int.le_trans hx1 (Int.ofNat_le.2 hLl)
              have HT := Lib.hid (take_succ_of hr)
              have HG := Lib.hid hget
              clear hr cr hget hx1 hLl
              go_wp2_with fail
              go_still_tail 24, (by kernel_rfl)
              change wpList _ _ _ _ _ wr.drew
              go_wp2
              go_roundg (gk - 1)
              case measure => omega
              case rel => exact ⟨m + 1, by omega, by go_num, Lib.hid ⟨by rw [HT.out, ← List.append_assoc]; exact HS.out.1.drew.put rn HG.out, (heap_setCell_other wr.drew _ _ _ (by simp)).trans HS.out.2.1, (heap_setCell_other wr.drew _ _ _ (by simp; omega)).trans HS.out.2.2⟩⟩
            · obtain rfl : m = args.length := by omega
              go_wp2
              go_roundg (phis.length - (k + 1))
              case measure => omega
              case rel => exact ⟨k + 1, by omega, by go_num, Lib.hid ⟨by have h1 := HS.out.1; rw [List.take_length, List.append_assoc] at h1; rw [phiArgs, flat_succ HX2.out]; exact h1, HS.out.2.1, HS.out.2.2⟩⟩
        · obtain rfl : k = phis.length := by omega
          have HB := Lib.hid (show Cnt w.heap.size (w.heap.size + 1) n (P ++ phiArgs phis) w wr ∧ wr.heap[w.heap.size]? = some (.cells #[.int .i64 params, .int .i64 (n : Int), .slice (some ⟨b1, o1, none⟩) blocks.length bc] 51) ∧ wr.heap[bx]? = some (.cells #[.slice pa phis.length pc, .slice ia ins.length ic, .int .i64 jump, .int .i64 jon, .slice na nx.length nc] 70) from by have h1 := HQ.out; rw [List.take_length] at h1; exact h1)
          obtain ⟨P2, hP2⟩ : ∃ P2, P2 = P ++ phiArgs phis := ⟨_, rfl⟩
          rw [← hP2] at HB
          have HP3 := Lib.hid hP2
          clear hP2 HQ
          go_wp2_with fail
          clear q0
          go_loopg [8] ins.length (fun F i wq => ∃ k : Nat, k + F = ins.length ∧ i = .int .i64 k ∧ Hid (Cnt w.heap.size (w.heap.size + 1) n (P2 ++ insArgsL (ins.take k)) w wq ∧ wq.heap[w.heap.size]? = some (.cells #[.int .i64 params, .int .i64 (n : Int), .slice (some ⟨b1, o1, none⟩) blocks.length bc] 51) ∧ wq.heap[bx]? = some (.cells #[.slice pa phis.length pc, .slice ia ins.length ic, .int .i64 jump, .int .i64 jon, .slice na nx.length nc] 70)))
          case atStart => exact ⟨0, by omega, rfl, Lib.hid ⟨by simpa [insArgsL] using HB.out.1, HB.out.2.1, HB.out.2.2⟩⟩
          case round =>
            obtain ⟨k, hk, rfl, HQ⟩ := hrel
            clear HB
            have q0 : wr.cell? ⟨bx, 1, none⟩ = some (.slice ia ins.length _) := cell_of_row _ _ 1 _ _ _ HQ.out.2.2
            by_cases hlt2 : k < ins.length
            · obtain ⟨b2, o2, op, tr, args, num, aa, ac, rfl, hxp, e0, e1, e2, e3, hRp⟩ := ins_place hins.2 hlt2
              obtain ⟨_, _, hcs, _, hra⟩ := hRp
              simp only [List.cons.injEq, Value.slice.injEq, and_true, true_and] at hcs
              obtain ⟨rfl, rfl⟩ := hcs
              have hra : IntsRd w aa args.length args := hra
              have hal : args.length ≤ 1048576 := szIns_args HZ.out.2 hxp
              have hpre := prefix_take_flat (f := fun f => f.args) hxp P2
              have HP2 := Lib.hid (HN.out.part2 HP3.out hpre)
              have HX2 := Lib.hid hxp
              have f1 := cell_later HQ.out.1.below e2
              have HE := Lib.hid e2
              clear hxp hpre e0 e1 e2 e3
              go_wp2_with fail
              clear q0 f1
              obtain ⟨wb, hwb⟩ : ∃ wb, wb = wr := ⟨_, rfl⟩
              subst hwb
              go_loopg [9] args.length (fun F i wq => ∃ m : Nat, m + F = args.length ∧ i = .int .i64 m ∧ Hid (Cnt w.heap.size (w.heap.size + 1) n (P2 ++ insArgsL (ins.take k) ++ args.take m) w wq ∧ wq.heap[w.heap.size]? = some (.cells #[.int .i64 params, .int .i64 (n : Int), .slice (some ⟨b1, o1, none⟩) blocks.length bc] 51) ∧ wq.heap[bx]? = some (.cells #[.slice pa phis.length pc, .slice (some ⟨b2, o2, none⟩) ins.length ic, .int .i64 jump, .int .i64 jon, .slice na nx.length nc] 70)))
              case atStart => exact ⟨0, by omega, rfl, Lib.hid ⟨by simpa using HQ.out.1, HQ.out.2.1, HQ.out.2.2⟩⟩
              case round =>
                obtain ⟨m, hm, rfl, HS⟩ := hrel
                have q0 : wr.cell? ⟨bx, 1, none⟩ = some (.slice (some ⟨b2, o2, none⟩) ins.length _) := cell_of_row _ _ 1 _ _ _ HS.out.2.2
                have f1 := cell_later HS.out.1.below HE.out
                by_cases hlt3 : m < args.length
                · obtain ⟨b3, o3, r, rfl, hr, cr⟩ := hra.place hlt3
                  obtain ⟨rn, rfl, hrn, hLl⟩ := (HP2.out.part (prefix_take_one hr _)).head
                  obtain ⟨x, gx, fx, hget, hx0, hx1⟩ := HS.out.1.get hrn
                  have cr' := cell_later HS.out.1.below cr
                  have hmi : (rn : Int) < (n : Int) := by omega
                  have hx2 : x ≤ 1048576 := Int.le_trans hx1 (Int.ofNat_le.2 hLl)
                  have HT := Lib.hid (take_succ_of hr)
                  have HG := Lib.hid hget
                  clear hr cr hget hx1 hLl
                  go_wp2_with fail
                  go_still_tail 24, (by kernel_rfl)
                  change wpList _ _ _ _ _ wr.drew
                  go_wp2
                  go_roundg (gk - 1)
                  case measure => omega
                  case rel => exact ⟨m + 1, by omega, by go_num, Lib.hid ⟨by rw [HT.out, ← List.append_assoc]; exact HS.out.1.drew.put rn HG.out, (heap_setCell_other wr.drew _ _ _ (by simp)).trans HS.out.2.1, (heap_setCell_other wr.drew _ _ _ (by simp; omega)).trans HS.out.2.2⟩⟩
                · obtain rfl : m = args.length := by omega
                  go_wp2
                  go_roundg (ins.length - (k + 1))
                  case measure => omega
                  case rel => exact ⟨k + 1, by omega, by go_num, Lib.hid ⟨by have h1 := HS.out.1; rw [List.take_length, List.append_assoc] at h1; rw [insArgsL, flat_succ HX2.out]; exact h1, HS.out.2.1, HS.out.2.2⟩⟩
            · obtain rfl : k = ins.length := by omega
              have HE := Lib.hid (show Cnt w.heap.size (w.heap.size + 1) n (P2 ++ insArgsL ins) w wr ∧ wr.heap[w.heap.size]? = some (.cells #[.int .i64 params, .int .i64 (n : Int), .slice (some ⟨b1, o1, none⟩) blocks.length bc] 51) ∧ wr.heap[bx]? = some (.cells #[.slice pa phis.length pc, .slice ia ins.length ic, .int .i64 jump, .int .i64 jon, .slice na nx.length nc] 70) from by have h1 := HQ.out; rw [List.take_length] at h1; exact h1)
              have q2 : wr.cell? ⟨bx, 2, none⟩ = some (.int .i64 jump) := cell_of_row _ _ 2 _ _ _ HQ.out.2.2
              have q3 : wr.cell? ⟨bx, 3, none⟩ = some (.int .i64 jon) := cell_of_row _ _ 3 _ _ _ HQ.out.2.2
              clear HQ
              by_cases h1 : jump = 1
              · have e1 : (jump != 1) = false := by simpa using h1
                have HO := Lib.hid (show onArgs ⟨phis, ins, jump, jon, nx⟩ = [] by rw [onArgs, h1]; rfl)
                clear h1 hjm
                go_wp2
                go_roundg (blocks.length - (b + 1))
                case measure => omega
                case rel => exact ⟨b + 1, by omega, by go_num, Lib.hid ⟨by rw [flat_succ HXB.out, ← HPP.out, blockArgs, HO.out, List.append_nil, ← List.append_assoc, ← HP3.out]; exact HE.out.1, HE.out.2.1⟩⟩
              · have e1 : (jump != 1) = true := by simpa using h1
                have HO := Lib.hid (show onArgs ⟨phis, ins, jump, jon, nx⟩ = [jon] by rw [onArgs]; rcases hjm with h | h | h <;> first | exact absurd h h1 | (rw [h]; rfl))
                have HO2 := Lib.hid (show P ++ blockArgs ⟨phis, ins, jump, jon, nx⟩ = P2 ++ insArgsL ins ++ [jon] by rw [blockArgs, HO.out, ← List.append_assoc, ← List.append_assoc, ← HP3.out])
                have HN2 := HN.out
                rw [HO2.out] at HN2
                obtain ⟨rn, rfl, hrn, hLl⟩ := HN2.head
                obtain ⟨x, gx, fx, hget, hx0, hx1⟩ := HE.out.1.get hrn
                have hmi : (rn : Int) < (n : Int) := by omega
                have hx2 : x ≤ 1048576 := by omega
                have HG := Lib.hid hget
                clear h1 hjm HN2 hget hx1 hLl
                go_wp2_with fail
                go_still_tail 10, (by kernel_rfl)
                change wpList _ _ _ _ _ wr.drew
                go_wp2
                go_roundg (blocks.length - (b + 1))
                case measure => omega
                case rel => exact ⟨b + 1, by omega, by go_num, Lib.hid ⟨by rw [flat_succ HXB.out, ← HPP.out, HO2.out]; exact HE.out.1.drew.put rn HG.out, (heap_setCell_other wr.drew _ _ _ (by simp)).trans HE.out.2.1⟩⟩
    · obtain rfl : b = blocks.length := by omega
      go_wp2
      go_ret
      have h1 := HK.out.1
      rw [List.take_length, ← HA.out.1] at h1
      exact ⟨_, _, rfl, h1.own, h1.below⟩

end Go.Proofs.Ytkhnhdgbbjppeaa
