
/-
  IsSingle, the reference's.
-/
import Derived.Test.YtkhnhdgbbjppeaaSingle4
import Derived.Test.YtkhnhdgbbjppeaaUvSpecUnit
import Derived.Test.YtkhnhdgbbjppeaaUses
namespace Go.Proofs.Ytkhnhdgbbjppeaa
open Go.RowKit

noncomputable def singleUB (us : List CodeD) : Bool := unitB us && us.all singleB

theorem l13Is_code (us : List CodeD) (k : Nat) (c : CodeD) (hc : codeB us k c = true) (cs : List Value) (w : World) (hR : CodeR w cs c) (hsz : szCodeD c ≤ 1048576) :
    Calls Try.prog 76 #[.agg cs.toArray] w fun e w' => e = .returned (.bool (singleB c)) ∧ Below w.heap.size w w' := by
  obtain ⟨ba, bc, rfl, hg⟩ := gr_of_code hR hsz
  obtain ⟨params, regs, blocks⟩ := c
  have hl : (nxs ⟨params, regs, blocks⟩).length = blocks.length := nxs_len _
  rw [hl] at hR ⊢
  exact l13Is_any us k params regs blocks ba bc hc w hR hsz hg

set_option maxRecDepth 100000 in
set_option maxHeartbeats 1000000 in
theorem specIsSingle_any (us : List CodeD) (ua : Option Addr) (uc : Nat) (hsz : szS szCodeD us ≤ 1048576) (w : World) (hU : SliceRd 3 CodeR w ua us.length us) :
    Calls Try.prog 38 #[.agg #[.slice ua us.length uc]] w fun e w' => e = .returned (.bool (singleUB us)) ∧ Below w.heap.size w w' := by
  have hb0 : Below w.heap.size w (w.alloc (.cells #[.slice ua us.length uc] 29)) := (Below.refl _ _).alloc (Nat.le_refl _) _
  have hrow := heap_alloc_new w (.cells #[.slice ua us.length uc] 29)
  have hn2 : us.length ≤ 1048576 := Nat.le_trans (szS_len szCodeD us) hsz
  have HC := Lib.hid (And.intro hb0 (And.intro hrow (And.intro hU hsz)))
  clear hU hrow hb0 hsz
  go_enter Try.func38, Try.ntmps38
  go_wp2_with fail
  generalize w.alloc (.cells #[.slice ua us.length uc] 29) = W0 at HC ⊢
  have HUV := Lib.hid (fun (W : World) (hW : Below w.heap.size w W) => specUnitValid_any us ua uc HC.out.2.2.2 W (HC.out.2.2.1.later codeR_lasts hW))
  have HV := Lib.hid (show singleUB us = (unitB us && us.all singleB) from rfl)
  go_loopg [3] us.length (fun F i wr => ∃ k : Nat, k + F = us.length ∧ i = .int .i64 k ∧ Hid (Below W0.heap.size W0 wr ∧ (us.take k).all singleB = true))
  case atStart => exact ⟨0, by omega, rfl, Lib.hid ⟨Below.refl _ _, rfl⟩⟩
  case round =>
    obtain ⟨k, hk, rfl, HK⟩ := hrel
    have hblk := (HK.out.1.block _ (Array.getElem?_eq_some_iff.1 HC.out.2.1).1).trans HC.out.2.1
    have u0 : wr.cell? ⟨w.heap.size, 0, none⟩ = some (.slice ua us.length uc) := cell_of_row _ _ 0 _ _ _ hblk
    have HBW := Lib.hid (HC.out.1.trans (HK.out.1.mono HC.out.1.size))
    clear hblk
    by_cases hlt : k < us.length
    · have hki : (k : Int) < (us.length : Int) := by omega
      go_wp2_with fail
      refine (HUV.out wr HBW.out).mono ?_
      rintro e w1 ⟨rfl, hb1⟩
      have u1 := cell_later hb1 u0
      have HB1 := Lib.hid (And.intro (HK.out.1.trans (hb1.mono HK.out.1.size)) (HBW.out.trans (hb1.mono HBW.out.size)))
      clear u0 hb1
      cases hv : unitB us with
      | false =>
        have HN := Lib.hid (show singleUB us = unitB us by rw [HV.out, hv, Bool.false_and])
        clear hv
        go_wp2_with fail
        refine (HUV.out w1 HB1.out.2).mono ?_
        rintro e w2 ⟨rfl, hb2⟩
        have HBE := Lib.hid (HB1.out.2.trans (hb2.mono HB1.out.2.size))
        clear hb2
        go_wp2
        go_ret
        exact ⟨ret_bool HN.out.symm, HBE.out⟩
      | true =>
        obtain ⟨b1, o1, params, regs, blocks, ba, bc, rfl, hx, c0, c1, c2, hCR⟩ := code_place (HC.out.2.2.1.later codeR_lasts HB1.out.2) hlt
        have hz := szS_get (sz := szCodeD) HC.out.2.2.2 hx
        have HIS := Lib.hid (And.intro (l13Is_code us k ⟨params, regs, blocks⟩ (unit_code hv hx) _ w1 hCR hz.1) hx)
        have HUT := Lib.hid hv
        clear hv hx hCR hz
        go_wp2_with fail
        refine HIS.out.1.mono ?_
        cases hs : singleB ⟨params, regs, blocks⟩ with
        | false =>
          rintro e w2 ⟨rfl, hb2⟩
          have HN := Lib.hid (show singleUB us = false by
            rw [HV.out, Bool.and_eq_false_iff]
            refine .inr (List.all_eq_false.2 ⟨_, List.mem_of_getElem? HIS.out.2, ?_⟩)
            rw [hs]; simp)
          have HBE := Lib.hid (HB1.out.2.trans (hb2.mono HB1.out.2.size))
          clear hs hb2
          go_wp2
          go_ret
          exact ⟨ret_bool HN.out.symm, HBE.out⟩
        | true =>
          rintro e w2 ⟨rfl, hb2⟩
          have HN := Lib.hid (And.intro (HB1.out.1.trans (hb2.mono HB1.out.1.size)) (all_next HK.out.2 HIS.out.2 hs))
          clear hs hb2
          go_wp2
          go_roundg (gk - 1)
          case measure => omega
          case rel => exact ⟨k + 1, by omega, by go_num, HN⟩
    · obtain rfl : k = us.length := by omega
      have HN := Lib.hid (show singleUB us = unitB us by
        have := HK.out.2
        rw [List.take_length] at this
        rw [HV.out, this, Bool.and_true])
      go_wp2_with fail
      refine (HUV.out wr HBW.out).mono ?_
      rintro e w2 ⟨rfl, hb2⟩
      have HBE := Lib.hid (HBW.out.trans (hb2.mono HBW.out.size))
      clear hb2
      go_wp2
      go_ret
      exact ⟨ret_bool HN.out.symm, HBE.out⟩

end Go.Proofs.Ytkhnhdgbbjppeaa
