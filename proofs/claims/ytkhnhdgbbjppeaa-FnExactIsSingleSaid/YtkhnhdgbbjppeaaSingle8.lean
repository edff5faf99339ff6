
/-
  IsSingle, the program's: its test of a code.
-/
import Derived.Test.YtkhnhdgbbjppeaaSingle7
import Derived.Test.YtkhnhdgbbjppeaaSingle4
import Derived.Test.YtkhnhdgbbjppeaaOrderIn
import Derived.Deep.RegionHeld3
namespace Go.Proofs.Ytkhnhdgbbjppeaa
open Go.RowKit

theorem any_out {g : List (List Int)} (hf : Fits g) : (reachRow g (-1)).any (fun y => !y) = !decide ((leftOf g).length = g.length) := by
  have h := leftOf_full hf
  by_cases hl : (leftOf g).length = g.length
  · rw [decide_eq_true hl, Bool.not_true, List.any_eq_false]
    intro x hx
    obtain ⟨v, hv⟩ := List.getElem?_of_mem hx
    have hvl : v < g.length := by have := (List.getElem?_eq_some_iff.1 hv).1; rwa [reachRow_length] at this
    rw [reachRow_get hvl, h.1 hl v hvl] at hv
    cases hv
    simp
  · rw [decide_eq_false hl, Bool.not_false]
    by_cases ha : (reachRow g (-1)).any (fun y => !y) = true
    · exact ha
    · exfalso
      refine hl (h.2 (fun v hv => ?_))
      have h2 := any_false (Bool.not_eq_true _ ▸ ha) _ (List.mem_of_getElem? (reachRow_get hv))
      simpa using h2

set_option maxRecDepth 100000 in
set_option maxHeartbeats 1000000 in
theorem notRuled_any (v : Bool) (rb bb ib : Nat) (r b i : Int) (w : World) (c1 c2 c3 : Nat)
    (h1 : w.cell? ⟨rb, 0, none⟩ = some (.func (.func 123) #[] #[.pointer (some ⟨c1, 0, none⟩), .pointer (some ⟨c2, 0, none⟩), .pointer (some ⟨c3, 0, none⟩)])) (h2 : w.cell? ⟨bb, 0, none⟩ = some (.int .i64 b)) (h3 : w.cell? ⟨ib, 0, none⟩ = some (.int .i64 i))
    (hcall : Calls Try.prog 123 #[.int .i64 r, .int .i64 b, .int .i64 i, .pointer (some ⟨c1, 0, none⟩), .pointer (some ⟨c2, 0, none⟩), .pointer (some ⟨c3, 0, none⟩)] w fun e w' => e = .returned (.bool v) ∧ Below w.heap.size w w') :
    Calls Try.prog 124 #[.int .i64 r, .pointer (some ⟨rb, 0, none⟩), .pointer (some ⟨bb, 0, none⟩), .pointer (some ⟨ib, 0, none⟩)] w fun e w' => e = .returned (.bool (!v)) ∧ Below w.heap.size w w' := by
  have HC := Lib.hid hcall
  clear hcall
  go_enter Try.func124, Try.ntmps124
  go_wp2_with fail
  refine HC.out.mono ?_
  rintro e w1 ⟨rfl, hb1⟩
  go_wp2
  go_ret
  exact ⟨rfl, hb1⟩

set_option maxRecDepth 100000 in
set_option maxHeartbeats 4000000 in
theorem singleCode_any (us : List CodeD) (k : Nat) (params regs : Int) (blocks : List BlockD) (ba : Option Addr) (bc : Nat) (hc : codeB us k ⟨params, regs, blocks⟩ = true) (w : World) (hR : CodeR w [.int .i64 params, .int .i64 regs, .slice ba blocks.length bc] ⟨params, regs, blocks⟩) (hsz : szCodeD ⟨params, regs, blocks⟩ ≤ 1048576)
    (hg : Gr w ba (nxs ⟨params, regs, blocks⟩)) :
    Calls Try.prog 80 #[.agg #[.int .i64 params, .int .i64 regs, .slice ba blocks.length bc]] w fun e w' => e = .returned (.bool (singleB ⟨params, regs, blocks⟩)) ∧ Below w.heap.size w w' := by
  have hmf : ∀ (fn : Fn) (first cap : Array Value) (w : World), (Instr.makeFunc fn first cap).run Try.prog w = .ok (.func fn first cap) w := fun _ _ _ _ => rfl
  have hgl : (nxs ⟨params, regs, blocks⟩).length = blocks.length := nxs_len ⟨params, regs, blocks⟩
  have hF := code_fits hc
  have hbl : blocks.length ≤ 1048576 := by rw [← hgl]; exact hg.len
  have hlim := (code_lims hc).1
  have hlim : 0 ≤ regs ∧ regs ≤ 300 := hlim
  obtain ⟨n, rfl⟩ : ∃ n : Nat, regs = (n : Int) := ⟨regs.toNat, by omega⟩
  have hn300 : n ≤ 300 := by omega
  have hb0 := below_box w (.int .i64 params) (.int .i64 (n : Int)) (.slice ba blocks.length bc)
  have hrow := heap_alloc_new w (.cells #[.int .i64 params, .int .i64 (n : Int), .slice ba blocks.length bc] 51)
  have HC := Lib.hid (And.intro hb0 (And.intro hrow hR))
  clear hrow hR hb0
  go_enter Try.func80, Try.ntmps80
  go_upto_region 1 with fail
  generalize w.alloc (.cells #[.int .i64 params, .int .i64 (n : Int), .slice ba blocks.length bc] 51) = W1 at HC ⊢
  have k0 := cell_of_row _ _ 0 _ _ _ HC.out.2.1
  have k1 := cell_of_row _ _ 1 _ _ _ HC.out.2.1
  have k2 := cell_of_row _ _ 2 _ _ _ HC.out.2.1
  simp only [List.getElem?_toArray, List.getElem?_cons_zero, List.getElem?_cons_succ] at k0 k1 k2
  have HO := Lib.hid (fun (W : World) (hW : Below W1.heap.size W1 W) => show Calls Try.prog 87 #[.agg #[.int .i64 params, .int .i64 (n : Int), .slice ba blocks.length bc]] W (fun e w' => ∃ x : Nat × Option Addr × Nat × Nat, e = .returned (.pointer (some ⟨x.1, 0, none⟩)) ∧ DomsAt w' params (n : Int) ba bc (nxs ⟨params, (n : Int), blocks⟩) x.1 x.2.1 x.2.2.1 x.2.2.2 ∧ Below W.heap.size W w') from by
    have h := domsOf_any (nxs ⟨params, (n : Int), blocks⟩) params (n : Int) ba bc W (hg.later (HC.out.1.trans (hW.mono HC.out.1.size)))
    rw [hgl] at h
    refine h.mono ?_
    rintro e w' ⟨hb, hcase⟩
    rcases hcase with ⟨hno, _⟩ | ⟨_, db, oa, oc, sb, rfl, hD⟩
    · rw [fits_iff.2 hF] at hno; cases hno
    · exact ⟨(db, oa, oc, sb), rfl, hD, hb⟩)
  have HP := Lib.hid (fun (W : World) (hW : Below W1.heap.size W1 W) => show Calls Try.prog 66 #[.agg #[.int .i64 params, .int .i64 (n : Int), .slice ba blocks.length bc]] W (fun e w' => ∃ gs, e = .returned (.slice (some ⟨gs, 0, none⟩) n n) ∧ PlRd w' gs n (setsP n (evBl blocks blocks.length)) ∧ W.heap.size ≤ gs ∧ gs < w'.heap.size ∧ Below W.heap.size W w') from by
    refine (placesOf_any _ ⟨params, (n : Int), blocks⟩ W n (codeR_lasts _ _ _ _ (HC.out.1.trans (hW.mono HC.out.1.size)) HC.out.2.2) hsz rfl (by omega) (setsOk_of hc rfl)).mono ?_
    rintro e w' ⟨gs, rfl, hS⟩
    exact ⟨gs, rfl, hS.rd, hS.lo, hS.lt, hS.below⟩)
  have HG := Lib.hid (show 0 < (nxs ⟨params, (n : Int), blocks⟩).length from hF.pos)
  go_cut [3, 4] (fun v3 v4 wx => ∃ x gs a b, v3 = .pointer (some ⟨a, 0, none⟩) ∧ v4 = .pointer (some ⟨b, 0, none⟩) ∧ Hid (End4 params (n : Int) ba bc (nxs ⟨params, (n : Int), blocks⟩) n (setsP n (evBl blocks blocks.length)) W1 wx x gs a b))
  case first =>
    refine wp_region_held_drew (S := (fun W => W.cell? ⟨w.heap.size, 0, none⟩ = some (.int .i64 params) ∧ W.cell? ⟨w.heap.size, 1, none⟩ = some (.int .i64 (n : Int)) ∧ W.cell? ⟨w.heap.size, 2, none⟩ = some (.slice ba blocks.length bc))) (by kernel_rfl) ⟨k0, k1, k2⟩ (fun hHeld => ?_)
    refine wpAnyH_take (i := 0) (oi := ⟨some 17, _, _, _, _, _⟩) (v := ?_) rfl (by kernel_rfl) (by kernel_rfl) (by kernel_rfl) (fun _ _ _ h => h) (Or.inl ⟨by rfl, ?_⟩) (by assumption) ?_
    rotate_left
    · (intro w hSw; (try dsimp only at hSw); go_simp; all_goals (try with_reducible rfl))
    (try simp only [Act.put, List.setIfInBounds_toArray, List.set_cons_zero, List.set_cons_succ])
    refine wpAnyH_take (i := 2) (oi := ⟨some 19, _, _, _, _, _⟩) (v := ?_) rfl (by kernel_rfl) (by kernel_rfl) (by kernel_rfl) (fun _ _ _ h => h) (Or.inl ⟨by rfl, ?_⟩) (by assumption) ?_
    rotate_left
    · (intro w hSw; (try dsimp only at hSw); go_simp; all_goals (try with_reducible rfl))
    (try simp only [Act.put, List.setIfInBounds_toArray, List.set_cons_zero, List.set_cons_succ])
    have HS0 := Lib.hid (St4.start (p := params) (r := (n : Int)) (ba := ba) (bc := bc) (g := nxs ⟨params, (n : Int), blocks⟩) (n := n) (P := setsP n (evBl blocks blocks.length)) (show Below W1.heap.size W1 W1.drew from (Below.refl _ _).drew))
    generalize W1.drew = wd0 at HS0 hHeld ⊢
    refine wpAnyH_ready (rs := [1, 4, 5]) (by kernel_rfl) (by simp) ?_
    refine AllReadyH.cons (o := ⟨some 18, _, _, _, _, _⟩) rfl (fun K hK => ?_) ?_
    · go_simp
      go_at_call 87
      refine (HO.out _ HS0.out.below).mono ?_
      rintro e w1 ⟨xd, rfl, hxd, hxb⟩
      have HS1 := Lib.hid (HS0.out.callD hxb hxd)
      clear hxd hxb
      refine hK.out _ _ ⟨cell_later HS1.out.below k0, cell_later HS1.out.below k1, cell_later HS1.out.below k2⟩ (fun hHeld2 => ?_)
      clear hK K hHeld
      have hHeld := hHeld2
      clear hHeld2
      (try simp only [Act.put, List.setIfInBounds_toArray, List.set_cons_zero, List.set_cons_succ])
      refine wpAnyH_ready (rs := [3, 4, 5]) (by kernel_rfl) (by simp) ?_
      refine AllReadyH.cons (o := ⟨some 20, _, _, _, _, _⟩) rfl (fun K hK => ?_) ?_
      · go_simp
        go_at_call 66
        refine (HP.out _ HS1.out.below).mono ?_
        rintro e w2 ⟨gs, rfl, hx1, hx2, hx3, hxb⟩
        have HS2 := Lib.hid (HS1.out.callP hxb hx1 hx2 hx3)
        clear hx1 hx2 hx3 hxb
        refine hK.out _ _ ⟨cell_later HS2.out.below k0, cell_later HS2.out.below k1, cell_later HS2.out.below k2⟩ (fun hHeld2 => ?_)
        clear hK K hHeld
        have hHeld := hHeld2
        clear hHeld2
        (try simp only [Act.put, List.setIfInBounds_toArray, List.set_cons_zero, List.set_cons_succ])
        refine wpAnyH_ready (rs := [4, 5]) (by kernel_rfl) (by simp) ?_
        refine AllReadyH.cons (o := ⟨some 3, _, _, _, _, _⟩) rfl (fun K hK => ?_) ?_
        · go_simp
          have HS3 := Lib.hid (HS2.out.al3)
          refine hK.out _ _ ⟨cell_later HS3.out.below k0, cell_later HS3.out.below k1, cell_later HS3.out.below k2⟩ (fun hHeld2 => ?_)
          clear hK K hHeld
          have hHeld := hHeld2
          clear hHeld2
          (try simp only [Act.put, List.setIfInBounds_toArray, List.set_cons_zero, List.set_cons_succ])
          generalize hwe : w2.alloc (.cells #[.pointer none] 90) = w3 at HS3 hHeld ⊢
          clear hwe
          generalize w2.heap.size = b3 at HS3 ⊢
          refine wpAnyH_ready (rs := [5]) (by kernel_rfl) (by simp) ?_
          refine AllReadyH.cons (o := ⟨some 4, _, _, _, _, _⟩) rfl (fun K hK => ?_) ?_
          · go_simp
            have HS4 := Lib.hid (HS3.out.al4)
            refine hK.out _ _ ⟨cell_later HS4.out.below k0, cell_later HS4.out.below k1, cell_later HS4.out.below k2⟩ (fun hHeld2 => ?_)
            clear hK K hHeld
            have hHeld := hHeld2
            clear hHeld2
            (try simp only [Act.put, List.setIfInBounds_toArray, List.set_cons_zero, List.set_cons_succ])
            generalize hwe : w3.alloc (.cells #[.slice none 0 0] 80) = w4 at HS4 hHeld ⊢
            clear hwe
            generalize w3.heap.size = b4 at HS4 ⊢
            refine wpAnyH_ready (rs := [6]) (by kernel_rfl) (by simp) ?_
            refine AllReadyH.cons (o := ⟨none, _, _, _, _, _⟩) rfl (fun K hK => ?_) ?_
            · obtain ⟨hst3, hsu3⟩ := HS4.out.st3
              go_simp
              clear hst3 hsu3
              have hbk := Below.setCell (p := ⟨b3, 0, none⟩) HS4.out.below (HS4.out.x3 _ rfl).2 (.pointer (some ⟨xd.1, 0, none⟩))
              refine hK.out _ _ ⟨cell_later hbk k0, cell_later hbk k1, cell_later hbk k2⟩ (fun hHeld2 => ?_)
              clear hbk
              clear hK K hHeld
              have hHeld := hHeld2
              clear hHeld2
              (try simp only [Act.put, List.setIfInBounds_toArray, List.set_cons_zero, List.set_cons_succ])
              refine wpAnyH_ready (rs := [7]) (by kernel_rfl) (by simp) ?_
              refine AllReadyH.cons (o := ⟨none, _, _, _, _, _⟩) rfl (fun K hK => ?_) ?_
              · obtain ⟨hst4, hsu4⟩ := HS4.out.st4 (.pointer (some ⟨xd.1, 0, none⟩))
                go_simp
                clear hst4 hsu4
                have HF := Lib.hid (St4.fin HG.out HS4.out)
                refine hK.out _ _ ⟨cell_later HF.out.below k0, cell_later HF.out.below k1, cell_later HF.out.below k2⟩ (fun hHeld2 => ?_)
                clear hK K hHeld
                have hHeld := hHeld2
                clear hHeld2
                (try simp only [Act.put, List.setIfInBounds_toArray, List.set_cons_zero, List.set_cons_succ])
                refine wpAnyH_done (by kernel_rfl) ?_ _
                go_wp2_with fail
                go_meet
                exact ⟨_, _, _, _, rfl, rfl, Lib.hid HF.out⟩
              exact AllReadyH.nil
            exact AllReadyH.nil
          exact AllReadyH.nil
        refine AllReadyH.cons (o := ⟨some 4, _, _, _, _, _⟩) rfl (fun K hK => ?_) ?_
        · go_simp
          have HS3 := Lib.hid (HS2.out.al4)
          refine hK.out _ _ ⟨cell_later HS3.out.below k0, cell_later HS3.out.below k1, cell_later HS3.out.below k2⟩ (fun hHeld2 => ?_)
          clear hK K hHeld
          have hHeld := hHeld2
          clear hHeld2
          (try simp only [Act.put, List.setIfInBounds_toArray, List.set_cons_zero, List.set_cons_succ])
          generalize hwe : w2.alloc (.cells #[.slice none 0 0] 80) = w3 at HS3 hHeld ⊢
          clear hwe
          generalize w2.heap.size = b4 at HS3 ⊢
          refine wpAnyH_ready (rs := [4]) (by kernel_rfl) (by simp) ?_
          refine AllReadyH.cons (o := ⟨some 3, _, _, _, _, _⟩) rfl (fun K hK => ?_) ?_
          · go_simp
            have HS4 := Lib.hid (HS3.out.al3)
            refine hK.out _ _ ⟨cell_later HS4.out.below k0, cell_later HS4.out.below k1, cell_later HS4.out.below k2⟩ (fun hHeld2 => ?_)
            clear hK K hHeld
            have hHeld := hHeld2
            clear hHeld2
            (try simp only [Act.put, List.setIfInBounds_toArray, List.set_cons_zero, List.set_cons_succ])
            generalize hwe : w3.alloc (.cells #[.pointer none] 90) = w4 at HS4 hHeld ⊢
            clear hwe
            generalize w3.heap.size = b3 at HS4 ⊢
            refine wpAnyH_ready (rs := [6]) (by kernel_rfl) (by simp) ?_
            refine AllReadyH.cons (o := ⟨none, _, _, _, _, _⟩) rfl (fun K hK => ?_) ?_
            · obtain ⟨hst3, hsu3⟩ := HS4.out.st3
              go_simp
              clear hst3 hsu3
              have hbk := Below.setCell (p := ⟨b3, 0, none⟩) HS4.out.below (HS4.out.x3 _ rfl).2 (.pointer (some ⟨xd.1, 0, none⟩))
              refine hK.out _ _ ⟨cell_later hbk k0, cell_later hbk k1, cell_later hbk k2⟩ (fun hHeld2 => ?_)
              clear hbk
              clear hK K hHeld
              have hHeld := hHeld2
              clear hHeld2
              (try simp only [Act.put, List.setIfInBounds_toArray, List.set_cons_zero, List.set_cons_succ])
              refine wpAnyH_ready (rs := [7]) (by kernel_rfl) (by simp) ?_
              refine AllReadyH.cons (o := ⟨none, _, _, _, _, _⟩) rfl (fun K hK => ?_) ?_
              · obtain ⟨hst4, hsu4⟩ := HS4.out.st4 (.pointer (some ⟨xd.1, 0, none⟩))
                go_simp
                clear hst4 hsu4
                have HF := Lib.hid (St4.fin HG.out HS4.out)
                refine hK.out _ _ ⟨cell_later HF.out.below k0, cell_later HF.out.below k1, cell_later HF.out.below k2⟩ (fun hHeld2 => ?_)
                clear hK K hHeld
                have hHeld := hHeld2
                clear hHeld2
                (try simp only [Act.put, List.setIfInBounds_toArray, List.set_cons_zero, List.set_cons_succ])
                refine wpAnyH_done (by kernel_rfl) ?_ _
                go_wp2_with fail
                go_meet
                exact ⟨_, _, _, _, rfl, rfl, Lib.hid HF.out⟩
              exact AllReadyH.nil
            exact AllReadyH.nil
          exact AllReadyH.nil
        exact AllReadyH.nil
      refine AllReadyH.cons (o := ⟨some 3, _, _, _, _, _⟩) rfl (fun K hK => ?_) ?_
      · go_simp
        have HS2 := Lib.hid (HS1.out.al3)
        refine hK.out _ _ ⟨cell_later HS2.out.below k0, cell_later HS2.out.below k1, cell_later HS2.out.below k2⟩ (fun hHeld2 => ?_)
        clear hK K hHeld
        have hHeld := hHeld2
        clear hHeld2
        (try simp only [Act.put, List.setIfInBounds_toArray, List.set_cons_zero, List.set_cons_succ])
        generalize hwe : w1.alloc (.cells #[.pointer none] 90) = w2 at HS2 hHeld ⊢
        clear hwe
        generalize w1.heap.size = b3 at HS2 ⊢
        refine wpAnyH_ready (rs := [3, 5]) (by kernel_rfl) (by simp) ?_
        refine AllReadyH.cons (o := ⟨some 20, _, _, _, _, _⟩) rfl (fun K hK => ?_) ?_
        · go_simp
          go_at_call 66
          refine (HP.out _ HS2.out.below).mono ?_
          rintro e w3 ⟨gs, rfl, hx1, hx2, hx3, hxb⟩
          have HS3 := Lib.hid (HS2.out.callP hxb hx1 hx2 hx3)
          clear hx1 hx2 hx3 hxb
          refine hK.out _ _ ⟨cell_later HS3.out.below k0, cell_later HS3.out.below k1, cell_later HS3.out.below k2⟩ (fun hHeld2 => ?_)
          clear hK K hHeld
          have hHeld := hHeld2
          clear hHeld2
          (try simp only [Act.put, List.setIfInBounds_toArray, List.set_cons_zero, List.set_cons_succ])
          refine wpAnyH_ready (rs := [5]) (by kernel_rfl) (by simp) ?_
          refine AllReadyH.cons (o := ⟨some 4, _, _, _, _, _⟩) rfl (fun K hK => ?_) ?_
          · go_simp
            have HS4 := Lib.hid (HS3.out.al4)
            refine hK.out _ _ ⟨cell_later HS4.out.below k0, cell_later HS4.out.below k1, cell_later HS4.out.below k2⟩ (fun hHeld2 => ?_)
            clear hK K hHeld
            have hHeld := hHeld2
            clear hHeld2
            (try simp only [Act.put, List.setIfInBounds_toArray, List.set_cons_zero, List.set_cons_succ])
            generalize hwe : w3.alloc (.cells #[.slice none 0 0] 80) = w4 at HS4 hHeld ⊢
            clear hwe
            generalize w3.heap.size = b4 at HS4 ⊢
            refine wpAnyH_ready (rs := [6]) (by kernel_rfl) (by simp) ?_
            refine AllReadyH.cons (o := ⟨none, _, _, _, _, _⟩) rfl (fun K hK => ?_) ?_
            · obtain ⟨hst3, hsu3⟩ := HS4.out.st3
              go_simp
              clear hst3 hsu3
              have hbk := Below.setCell (p := ⟨b3, 0, none⟩) HS4.out.below (HS4.out.x3 _ rfl).2 (.pointer (some ⟨xd.1, 0, none⟩))
              refine hK.out _ _ ⟨cell_later hbk k0, cell_later hbk k1, cell_later hbk k2⟩ (fun hHeld2 => ?_)
              clear hbk
              clear hK K hHeld
              have hHeld := hHeld2
              clear hHeld2
              (try simp only [Act.put, List.setIfInBounds_toArray, List.set_cons_zero, List.set_cons_succ])
              refine wpAnyH_ready (rs := [7]) (by kernel_rfl) (by simp) ?_
              refine AllReadyH.cons (o := ⟨none, _, _, _, _, _⟩) rfl (fun K hK => ?_) ?_
              · obtain ⟨hst4, hsu4⟩ := HS4.out.st4 (.pointer (some ⟨xd.1, 0, none⟩))
                go_simp
                clear hst4 hsu4
                have HF := Lib.hid (St4.fin HG.out HS4.out)
                refine hK.out _ _ ⟨cell_later HF.out.below k0, cell_later HF.out.below k1, cell_later HF.out.below k2⟩ (fun hHeld2 => ?_)
                clear hK K hHeld
                have hHeld := hHeld2
                clear hHeld2
                (try simp only [Act.put, List.setIfInBounds_toArray, List.set_cons_zero, List.set_cons_succ])
                refine wpAnyH_done (by kernel_rfl) ?_ _
                go_wp2_with fail
                go_meet
                exact ⟨_, _, _, _, rfl, rfl, Lib.hid HF.out⟩
              exact AllReadyH.nil
            exact AllReadyH.nil
          exact AllReadyH.nil
        refine AllReadyH.cons (o := ⟨some 4, _, _, _, _, _⟩) rfl (fun K hK => ?_) ?_
        · go_simp
          have HS3 := Lib.hid (HS2.out.al4)
          refine hK.out _ _ ⟨cell_later HS3.out.below k0, cell_later HS3.out.below k1, cell_later HS3.out.below k2⟩ (fun hHeld2 => ?_)
          clear hK K hHeld
          have hHeld := hHeld2
          clear hHeld2
          (try simp only [Act.put, List.setIfInBounds_toArray, List.set_cons_zero, List.set_cons_succ])
          generalize hwe : w2.alloc (.cells #[.slice none 0 0] 80) = w3 at HS3 hHeld ⊢
          clear hwe
          generalize w2.heap.size = b4 at HS3 ⊢
          refine wpAnyH_ready (rs := [3]) (by kernel_rfl) (by simp) ?_
          refine AllReadyH.cons (o := ⟨some 20, _, _, _, _, _⟩) rfl (fun K hK => ?_) ?_
          · go_simp
            go_at_call 66
            refine (HP.out _ HS3.out.below).mono ?_
            rintro e w4 ⟨gs, rfl, hx1, hx2, hx3, hxb⟩
            have HS4 := Lib.hid (HS3.out.callP hxb hx1 hx2 hx3)
            clear hx1 hx2 hx3 hxb
            refine hK.out _ _ ⟨cell_later HS4.out.below k0, cell_later HS4.out.below k1, cell_later HS4.out.below k2⟩ (fun hHeld2 => ?_)
            clear hK K hHeld
            have hHeld := hHeld2
            clear hHeld2
            (try simp only [Act.put, List.setIfInBounds_toArray, List.set_cons_zero, List.set_cons_succ])
            refine wpAnyH_ready (rs := [6]) (by kernel_rfl) (by simp) ?_
            refine AllReadyH.cons (o := ⟨none, _, _, _, _, _⟩) rfl (fun K hK => ?_) ?_
            · obtain ⟨hst3, hsu3⟩ := HS4.out.st3
              go_simp
              clear hst3 hsu3
              have hbk := Below.setCell (p := ⟨b3, 0, none⟩) HS4.out.below (HS4.out.x3 _ rfl).2 (.pointer (some ⟨xd.1, 0, none⟩))
              refine hK.out _ _ ⟨cell_later hbk k0, cell_later hbk k1, cell_later hbk k2⟩ (fun hHeld2 => ?_)
              clear hbk
              clear hK K hHeld
              have hHeld := hHeld2
              clear hHeld2
              (try simp only [Act.put, List.setIfInBounds_toArray, List.set_cons_zero, List.set_cons_succ])
              refine wpAnyH_ready (rs := [7]) (by kernel_rfl) (by simp) ?_
              refine AllReadyH.cons (o := ⟨none, _, _, _, _, _⟩) rfl (fun K hK => ?_) ?_
              · obtain ⟨hst4, hsu4⟩ := HS4.out.st4 (.pointer (some ⟨xd.1, 0, none⟩))
                go_simp
                clear hst4 hsu4
                have HF := Lib.hid (St4.fin HG.out HS4.out)
                refine hK.out _ _ ⟨cell_later HF.out.below k0, cell_later HF.out.below k1, cell_later HF.out.below k2⟩ (fun hHeld2 => ?_)
                clear hK K hHeld
                have hHeld := hHeld2
                clear hHeld2
                (try simp only [Act.put, List.setIfInBounds_toArray, List.set_cons_zero, List.set_cons_succ])
                refine wpAnyH_done (by kernel_rfl) ?_ _
                go_wp2_with fail
                go_meet
                exact ⟨_, _, _, _, rfl, rfl, Lib.hid HF.out⟩
              exact AllReadyH.nil
            exact AllReadyH.nil
          exact AllReadyH.nil
        exact AllReadyH.nil
      refine AllReadyH.cons (o := ⟨some 4, _, _, _, _, _⟩) rfl (fun K hK => ?_) ?_
      · go_simp
        have HS2 := Lib.hid (HS1.out.al4)
        refine hK.out _ _ ⟨cell_later HS2.out.below k0, cell_later HS2.out.below k1, cell_later HS2.out.below k2⟩ (fun hHeld2 => ?_)
        clear hK K hHeld
        have hHeld := hHeld2
        clear hHeld2
        (try simp only [Act.put, List.setIfInBounds_toArray, List.set_cons_zero, List.set_cons_succ])
        generalize hwe : w1.alloc (.cells #[.slice none 0 0] 80) = w2 at HS2 hHeld ⊢
        clear hwe
        generalize w1.heap.size = b4 at HS2 ⊢
        refine wpAnyH_ready (rs := [3, 4]) (by kernel_rfl) (by simp) ?_
        refine AllReadyH.cons (o := ⟨some 20, _, _, _, _, _⟩) rfl (fun K hK => ?_) ?_
        · go_simp
          go_at_call 66
          refine (HP.out _ HS2.out.below).mono ?_
          rintro e w3 ⟨gs, rfl, hx1, hx2, hx3, hxb⟩
          have HS3 := Lib.hid (HS2.out.callP hxb hx1 hx2 hx3)
          clear hx1 hx2 hx3 hxb
          refine hK.out _ _ ⟨cell_later HS3.out.below k0, cell_later HS3.out.below k1, cell_later HS3.out.below k2⟩ (fun hHeld2 => ?_)
          clear hK K hHeld
          have hHeld := hHeld2
          clear hHeld2
          (try simp only [Act.put, List.setIfInBounds_toArray, List.set_cons_zero, List.set_cons_succ])
          refine wpAnyH_ready (rs := [4]) (by kernel_rfl) (by simp) ?_
          refine AllReadyH.cons (o := ⟨some 3, _, _, _, _, _⟩) rfl (fun K hK => ?_) ?_
          · go_simp
            have HS4 := Lib.hid (HS3.out.al3)
            refine hK.out _ _ ⟨cell_later HS4.out.below k0, cell_later HS4.out.below k1, cell_later HS4.out.below k2⟩ (fun hHeld2 => ?_)
            clear hK K hHeld
            have hHeld := hHeld2
            clear hHeld2
            (try simp only [Act.put, List.setIfInBounds_toArray, List.set_cons_zero, List.set_cons_succ])
            generalize hwe : w3.alloc (.cells #[.pointer none] 90) = w4 at HS4 hHeld ⊢
            clear hwe
            generalize w3.heap.size = b3 at HS4 ⊢
            refine wpAnyH_ready (rs := [6]) (by kernel_rfl) (by simp) ?_
            refine AllReadyH.cons (o := ⟨none, _, _, _, _, _⟩) rfl (fun K hK => ?_) ?_
            · obtain ⟨hst3, hsu3⟩ := HS4.out.st3
              go_simp
              clear hst3 hsu3
              have hbk := Below.setCell (p := ⟨b3, 0, none⟩) HS4.out.below (HS4.out.x3 _ rfl).2 (.pointer (some ⟨xd.1, 0, none⟩))
              refine hK.out _ _ ⟨cell_later hbk k0, cell_later hbk k1, cell_later hbk k2⟩ (fun hHeld2 => ?_)
              clear hbk
              clear hK K hHeld
              have hHeld := hHeld2
              clear hHeld2
              (try simp only [Act.put, List.setIfInBounds_toArray, List.set_cons_zero, List.set_cons_succ])
              refine wpAnyH_ready (rs := [7]) (by kernel_rfl) (by simp) ?_
              refine AllReadyH.cons (o := ⟨none, _, _, _, _, _⟩) rfl (fun K hK => ?_) ?_
              · obtain ⟨hst4, hsu4⟩ := HS4.out.st4 (.pointer (some ⟨xd.1, 0, none⟩))
                go_simp
                clear hst4 hsu4
                have HF := Lib.hid (St4.fin HG.out HS4.out)
                refine hK.out _ _ ⟨cell_later HF.out.below k0, cell_later HF.out.below k1, cell_later HF.out.below k2⟩ (fun hHeld2 => ?_)
                clear hK K hHeld
                have hHeld := hHeld2
                clear hHeld2
                (try simp only [Act.put, List.setIfInBounds_toArray, List.set_cons_zero, List.set_cons_succ])
                refine wpAnyH_done (by kernel_rfl) ?_ _
                go_wp2_with fail
                go_meet
                exact ⟨_, _, _, _, rfl, rfl, Lib.hid HF.out⟩
              exact AllReadyH.nil
            exact AllReadyH.nil
          exact AllReadyH.nil
        refine AllReadyH.cons (o := ⟨some 3, _, _, _, _, _⟩) rfl (fun K hK => ?_) ?_
        · go_simp
          have HS3 := Lib.hid (HS2.out.al3)
          refine hK.out _ _ ⟨cell_later HS3.out.below k0, cell_later HS3.out.below k1, cell_later HS3.out.below k2⟩ (fun hHeld2 => ?_)
          clear hK K hHeld
          have hHeld := hHeld2
          clear hHeld2
          (try simp only [Act.put, List.setIfInBounds_toArray, List.set_cons_zero, List.set_cons_succ])
          generalize hwe : w2.alloc (.cells #[.pointer none] 90) = w3 at HS3 hHeld ⊢
          clear hwe
          generalize w2.heap.size = b3 at HS3 ⊢
          refine wpAnyH_ready (rs := [3]) (by kernel_rfl) (by simp) ?_
          refine AllReadyH.cons (o := ⟨some 20, _, _, _, _, _⟩) rfl (fun K hK => ?_) ?_
          · go_simp
            go_at_call 66
            refine (HP.out _ HS3.out.below).mono ?_
            rintro e w4 ⟨gs, rfl, hx1, hx2, hx3, hxb⟩
            have HS4 := Lib.hid (HS3.out.callP hxb hx1 hx2 hx3)
            clear hx1 hx2 hx3 hxb
            refine hK.out _ _ ⟨cell_later HS4.out.below k0, cell_later HS4.out.below k1, cell_later HS4.out.below k2⟩ (fun hHeld2 => ?_)
            clear hK K hHeld
            have hHeld := hHeld2
            clear hHeld2
            (try simp only [Act.put, List.setIfInBounds_toArray, List.set_cons_zero, List.set_cons_succ])
            refine wpAnyH_ready (rs := [6]) (by kernel_rfl) (by simp) ?_
            refine AllReadyH.cons (o := ⟨none, _, _, _, _, _⟩) rfl (fun K hK => ?_) ?_
            · obtain ⟨hst3, hsu3⟩ := HS4.out.st3
              go_simp
              clear hst3 hsu3
              have hbk := Below.setCell (p := ⟨b3, 0, none⟩) HS4.out.below (HS4.out.x3 _ rfl).2 (.pointer (some ⟨xd.1, 0, none⟩))
              refine hK.out _ _ ⟨cell_later hbk k0, cell_later hbk k1, cell_later hbk k2⟩ (fun hHeld2 => ?_)
              clear hbk
              clear hK K hHeld
              have hHeld := hHeld2
              clear hHeld2
              (try simp only [Act.put, List.setIfInBounds_toArray, List.set_cons_zero, List.set_cons_succ])
              refine wpAnyH_ready (rs := [7]) (by kernel_rfl) (by simp) ?_
              refine AllReadyH.cons (o := ⟨none, _, _, _, _, _⟩) rfl (fun K hK => ?_) ?_
              · obtain ⟨hst4, hsu4⟩ := HS4.out.st4 (.pointer (some ⟨xd.1, 0, none⟩))
                go_simp
                clear hst4 hsu4
                have HF := Lib.hid (St4.fin HG.out HS4.out)
                refine hK.out _ _ ⟨cell_later HF.out.below k0, cell_later HF.out.below k1, cell_later HF.out.below k2⟩ (fun hHeld2 => ?_)
                clear hK K hHeld
                have hHeld := hHeld2
                clear hHeld2
                (try simp only [Act.put, List.setIfInBounds_toArray, List.set_cons_zero, List.set_cons_succ])
                refine wpAnyH_done (by kernel_rfl) ?_ _
                go_wp2_with fail
                go_meet
                exact ⟨_, _, _, _, rfl, rfl, Lib.hid HF.out⟩
              exact AllReadyH.nil
            exact AllReadyH.nil
          exact AllReadyH.nil
        exact AllReadyH.nil
      exact AllReadyH.nil
    refine AllReadyH.cons (o := ⟨some 3, _, _, _, _, _⟩) rfl (fun K hK => ?_) ?_
    · go_simp
      have HS1 := Lib.hid (HS0.out.al3)
      refine hK.out _ _ ⟨cell_later HS1.out.below k0, cell_later HS1.out.below k1, cell_later HS1.out.below k2⟩ (fun hHeld2 => ?_)
      clear hK K hHeld
      have hHeld := hHeld2
      clear hHeld2
      (try simp only [Act.put, List.setIfInBounds_toArray, List.set_cons_zero, List.set_cons_succ])
      generalize hwe : wd0.alloc (.cells #[.pointer none] 90) = w1 at HS1 hHeld ⊢
      clear hwe
      generalize wd0.heap.size = b3 at HS1 ⊢
      refine wpAnyH_ready (rs := [1, 5]) (by kernel_rfl) (by simp) ?_
      refine AllReadyH.cons (o := ⟨some 18, _, _, _, _, _⟩) rfl (fun K hK => ?_) ?_
      · go_simp
        go_at_call 87
        refine (HO.out _ HS1.out.below).mono ?_
        rintro e w2 ⟨xd, rfl, hxd, hxb⟩
        have HS2 := Lib.hid (HS1.out.callD hxb hxd)
        clear hxd hxb
        refine hK.out _ _ ⟨cell_later HS2.out.below k0, cell_later HS2.out.below k1, cell_later HS2.out.below k2⟩ (fun hHeld2 => ?_)
        clear hK K hHeld
        have hHeld := hHeld2
        clear hHeld2
        (try simp only [Act.put, List.setIfInBounds_toArray, List.set_cons_zero, List.set_cons_succ])
        refine wpAnyH_ready (rs := [3, 5]) (by kernel_rfl) (by simp) ?_
        refine AllReadyH.cons (o := ⟨some 20, _, _, _, _, _⟩) rfl (fun K hK => ?_) ?_
        · go_simp
          go_at_call 66
          refine (HP.out _ HS2.out.below).mono ?_
          rintro e w3 ⟨gs, rfl, hx1, hx2, hx3, hxb⟩
          have HS3 := Lib.hid (HS2.out.callP hxb hx1 hx2 hx3)
          clear hx1 hx2 hx3 hxb
          refine hK.out _ _ ⟨cell_later HS3.out.below k0, cell_later HS3.out.below k1, cell_later HS3.out.below k2⟩ (fun hHeld2 => ?_)
          clear hK K hHeld
          have hHeld := hHeld2
          clear hHeld2
          (try simp only [Act.put, List.setIfInBounds_toArray, List.set_cons_zero, List.set_cons_succ])
          refine wpAnyH_ready (rs := [5]) (by kernel_rfl) (by simp) ?_
          refine AllReadyH.cons (o := ⟨some 4, _, _, _, _, _⟩) rfl (fun K hK => ?_) ?_
          · go_simp
            have HS4 := Lib.hid (HS3.out.al4)
            refine hK.out _ _ ⟨cell_later HS4.out.below k0, cell_later HS4.out.below k1, cell_later HS4.out.below k2⟩ (fun hHeld2 => ?_)
            clear hK K hHeld
            have hHeld := hHeld2
            clear hHeld2
            (try simp only [Act.put, List.setIfInBounds_toArray, List.set_cons_zero, List.set_cons_succ])
            generalize hwe : w3.alloc (.cells #[.slice none 0 0] 80) = w4 at HS4 hHeld ⊢
            clear hwe
            generalize w3.heap.size = b4 at HS4 ⊢
            refine wpAnyH_ready (rs := [6]) (by kernel_rfl) (by simp) ?_
            refine AllReadyH.cons (o := ⟨none, _, _, _, _, _⟩) rfl (fun K hK => ?_) ?_
            · obtain ⟨hst3, hsu3⟩ := HS4.out.st3
              go_simp
              clear hst3 hsu3
              have hbk := Below.setCell (p := ⟨b3, 0, none⟩) HS4.out.below (HS4.out.x3 _ rfl).2 (.pointer (some ⟨xd.1, 0, none⟩))
              refine hK.out _ _ ⟨cell_later hbk k0, cell_later hbk k1, cell_later hbk k2⟩ (fun hHeld2 => ?_)
              clear hbk
              clear hK K hHeld
              have hHeld := hHeld2
              clear hHeld2
              (try simp only [Act.put, List.setIfInBounds_toArray, List.set_cons_zero, List.set_cons_succ])
              refine wpAnyH_ready (rs := [7]) (by kernel_rfl) (by simp) ?_
              refine AllReadyH.cons (o := ⟨none, _, _, _, _, _⟩) rfl (fun K hK => ?_) ?_
              · obtain ⟨hst4, hsu4⟩ := HS4.out.st4 (.pointer (some ⟨xd.1, 0, none⟩))
                go_simp
                clear hst4 hsu4
                have HF := Lib.hid (St4.fin HG.out HS4.out)
                refine hK.out _ _ ⟨cell_later HF.out.below k0, cell_later HF.out.below k1, cell_later HF.out.below k2⟩ (fun hHeld2 => ?_)
                clear hK K hHeld
                have hHeld := hHeld2
                clear hHeld2
                (try simp only [Act.put, List.setIfInBounds_toArray, List.set_cons_zero, List.set_cons_succ])
                refine wpAnyH_done (by kernel_rfl) ?_ _
                go_wp2_with fail
                go_meet
                exact ⟨_, _, _, _, rfl, rfl, Lib.hid HF.out⟩
              exact AllReadyH.nil
            exact AllReadyH.nil
          exact AllReadyH.nil
        refine AllReadyH.cons (o := ⟨some 4, _, _, _, _, _⟩) rfl (fun K hK => ?_) ?_
        · go_simp
          have HS3 := Lib.hid (HS2.out.al4)
          refine hK.out _ _ ⟨cell_later HS3.out.below k0, cell_later HS3.out.below k1, cell_later HS3.out.below k2⟩ (fun hHeld2 => ?_)
          clear hK K hHeld
          have hHeld := hHeld2
          clear hHeld2
          (try simp only [Act.put, List.setIfInBounds_toArray, List.set_cons_zero, List.set_cons_succ])
          generalize hwe : w2.alloc (.cells #[.slice none 0 0] 80) = w3 at HS3 hHeld ⊢
          clear hwe
          generalize w2.heap.size = b4 at HS3 ⊢
          refine wpAnyH_ready (rs := [3]) (by kernel_rfl) (by simp) ?_
          refine AllReadyH.cons (o := ⟨some 20, _, _, _, _, _⟩) rfl (fun K hK => ?_) ?_
          · go_simp
            go_at_call 66
            refine (HP.out _ HS3.out.below).mono ?_
            rintro e w4 ⟨gs, rfl, hx1, hx2, hx3, hxb⟩
            have HS4 := Lib.hid (HS3.out.callP hxb hx1 hx2 hx3)
            clear hx1 hx2 hx3 hxb
            refine hK.out _ _ ⟨cell_later HS4.out.below k0, cell_later HS4.out.below k1, cell_later HS4.out.below k2⟩ (fun hHeld2 => ?_)
            clear hK K hHeld
            have hHeld := hHeld2
            clear hHeld2
            (try simp only [Act.put, List.setIfInBounds_toArray, List.set_cons_zero, List.set_cons_succ])
            refine wpAnyH_ready (rs := [6]) (by kernel_rfl) (by simp) ?_
            refine AllReadyH.cons (o := ⟨none, _, _, _, _, _⟩) rfl (fun K hK => ?_) ?_
            · obtain ⟨hst3, hsu3⟩ := HS4.out.st3
              go_simp
              clear hst3 hsu3
              have hbk := Below.setCell (p := ⟨b3, 0, none⟩) HS4.out.below (HS4.out.x3 _ rfl).2 (.pointer (some ⟨xd.1, 0, none⟩))
              refine hK.out _ _ ⟨cell_later hbk k0, cell_later hbk k1, cell_later hbk k2⟩ (fun hHeld2 => ?_)
              clear hbk
              clear hK K hHeld
              have hHeld := hHeld2
              clear hHeld2
              (try simp only [Act.put, List.setIfInBounds_toArray, List.set_cons_zero, List.set_cons_succ])
              refine wpAnyH_ready (rs := [7]) (by kernel_rfl) (by simp) ?_
              refine AllReadyH.cons (o := ⟨none, _, _, _, _, _⟩) rfl (fun K hK => ?_) ?_
              · obtain ⟨hst4, hsu4⟩ := HS4.out.st4 (.pointer (some ⟨xd.1, 0, none⟩))
                go_simp
                clear hst4 hsu4
                have HF := Lib.hid (St4.fin HG.out HS4.out)
                refine hK.out _ _ ⟨cell_later HF.out.below k0, cell_later HF.out.below k1, cell_later HF.out.below k2⟩ (fun hHeld2 => ?_)
                clear hK K hHeld
                have hHeld := hHeld2
                clear hHeld2
                (try simp only [Act.put, List.setIfInBounds_toArray, List.set_cons_zero, List.set_cons_succ])
                refine wpAnyH_done (by kernel_rfl) ?_ _
                go_wp2_with fail
                go_meet
                exact ⟨_, _, _, _, rfl, rfl, Lib.hid HF.out⟩
              exact AllReadyH.nil
            exact AllReadyH.nil
          exact AllReadyH.nil
        exact AllReadyH.nil
      refine AllReadyH.cons (o := ⟨some 4, _, _, _, _, _⟩) rfl (fun K hK => ?_) ?_
      · go_simp
        have HS2 := Lib.hid (HS1.out.al4)
        refine hK.out _ _ ⟨cell_later HS2.out.below k0, cell_later HS2.out.below k1, cell_later HS2.out.below k2⟩ (fun hHeld2 => ?_)
        clear hK K hHeld
        have hHeld := hHeld2
        clear hHeld2
        (try simp only [Act.put, List.setIfInBounds_toArray, List.set_cons_zero, List.set_cons_succ])
        generalize hwe : w1.alloc (.cells #[.slice none 0 0] 80) = w2 at HS2 hHeld ⊢
        clear hwe
        generalize w1.heap.size = b4 at HS2 ⊢
        refine wpAnyH_ready (rs := [1]) (by kernel_rfl) (by simp) ?_
        refine AllReadyH.cons (o := ⟨some 18, _, _, _, _, _⟩) rfl (fun K hK => ?_) ?_
        · go_simp
          go_at_call 87
          refine (HO.out _ HS2.out.below).mono ?_
          rintro e w3 ⟨xd, rfl, hxd, hxb⟩
          have HS3 := Lib.hid (HS2.out.callD hxb hxd)
          clear hxd hxb
          refine hK.out _ _ ⟨cell_later HS3.out.below k0, cell_later HS3.out.below k1, cell_later HS3.out.below k2⟩ (fun hHeld2 => ?_)
          clear hK K hHeld
          have hHeld := hHeld2
          clear hHeld2
          (try simp only [Act.put, List.setIfInBounds_toArray, List.set_cons_zero, List.set_cons_succ])
          refine wpAnyH_ready (rs := [3]) (by kernel_rfl) (by simp) ?_
          refine AllReadyH.cons (o := ⟨some 20, _, _, _, _, _⟩) rfl (fun K hK => ?_) ?_
          · go_simp
            go_at_call 66
            refine (HP.out _ HS3.out.below).mono ?_
            rintro e w4 ⟨gs, rfl, hx1, hx2, hx3, hxb⟩
            have HS4 := Lib.hid (HS3.out.callP hxb hx1 hx2 hx3)
            clear hx1 hx2 hx3 hxb
            refine hK.out _ _ ⟨cell_later HS4.out.below k0, cell_later HS4.out.below k1, cell_later HS4.out.below k2⟩ (fun hHeld2 => ?_)
            clear hK K hHeld
            have hHeld := hHeld2
            clear hHeld2
            (try simp only [Act.put, List.setIfInBounds_toArray, List.set_cons_zero, List.set_cons_succ])
            refine wpAnyH_ready (rs := [6]) (by kernel_rfl) (by simp) ?_
            refine AllReadyH.cons (o := ⟨none, _, _, _, _, _⟩) rfl (fun K hK => ?_) ?_
            · obtain ⟨hst3, hsu3⟩ := HS4.out.st3
              go_simp
              clear hst3 hsu3
              have hbk := Below.setCell (p := ⟨b3, 0, none⟩) HS4.out.below (HS4.out.x3 _ rfl).2 (.pointer (some ⟨xd.1, 0, none⟩))
              refine hK.out _ _ ⟨cell_later hbk k0, cell_later hbk k1, cell_later hbk k2⟩ (fun hHeld2 => ?_)
              clear hbk
              clear hK K hHeld
              have hHeld := hHeld2
              clear hHeld2
              (try simp only [Act.put, List.setIfInBounds_toArray, List.set_cons_zero, List.set_cons_succ])
              refine wpAnyH_ready (rs := [7]) (by kernel_rfl) (by simp) ?_
              refine AllReadyH.cons (o := ⟨none, _, _, _, _, _⟩) rfl (fun K hK => ?_) ?_
              · obtain ⟨hst4, hsu4⟩ := HS4.out.st4 (.pointer (some ⟨xd.1, 0, none⟩))
                go_simp
                clear hst4 hsu4
                have HF := Lib.hid (St4.fin HG.out HS4.out)
                refine hK.out _ _ ⟨cell_later HF.out.below k0, cell_later HF.out.below k1, cell_later HF.out.below k2⟩ (fun hHeld2 => ?_)
                clear hK K hHeld
                have hHeld := hHeld2
                clear hHeld2
                (try simp only [Act.put, List.setIfInBounds_toArray, List.set_cons_zero, List.set_cons_succ])
                refine wpAnyH_done (by kernel_rfl) ?_ _
                go_wp2_with fail
                go_meet
                exact ⟨_, _, _, _, rfl, rfl, Lib.hid HF.out⟩
              exact AllReadyH.nil
            exact AllReadyH.nil
          exact AllReadyH.nil
        exact AllReadyH.nil
      exact AllReadyH.nil
    refine AllReadyH.cons (o := ⟨some 4, _, _, _, _, _⟩) rfl (fun K hK => ?_) ?_
    · go_simp
      have HS1 := Lib.hid (HS0.out.al4)
      refine hK.out _ _ ⟨cell_later HS1.out.below k0, cell_later HS1.out.below k1, cell_later HS1.out.below k2⟩ (fun hHeld2 => ?_)
      clear hK K hHeld
      have hHeld := hHeld2
      clear hHeld2
      (try simp only [Act.put, List.setIfInBounds_toArray, List.set_cons_zero, List.set_cons_succ])
      generalize hwe : wd0.alloc (.cells #[.slice none 0 0] 80) = w1 at HS1 hHeld ⊢
      clear hwe
      generalize wd0.heap.size = b4 at HS1 ⊢
      refine wpAnyH_ready (rs := [1, 4]) (by kernel_rfl) (by simp) ?_
      refine AllReadyH.cons (o := ⟨some 18, _, _, _, _, _⟩) rfl (fun K hK => ?_) ?_
      · go_simp
        go_at_call 87
        refine (HO.out _ HS1.out.below).mono ?_
        rintro e w2 ⟨xd, rfl, hxd, hxb⟩
        have HS2 := Lib.hid (HS1.out.callD hxb hxd)
        clear hxd hxb
        refine hK.out _ _ ⟨cell_later HS2.out.below k0, cell_later HS2.out.below k1, cell_later HS2.out.below k2⟩ (fun hHeld2 => ?_)
        clear hK K hHeld
        have hHeld := hHeld2
        clear hHeld2
        (try simp only [Act.put, List.setIfInBounds_toArray, List.set_cons_zero, List.set_cons_succ])
        refine wpAnyH_ready (rs := [3, 4]) (by kernel_rfl) (by simp) ?_
        refine AllReadyH.cons (o := ⟨some 20, _, _, _, _, _⟩) rfl (fun K hK => ?_) ?_
        · go_simp
          go_at_call 66
          refine (HP.out _ HS2.out.below).mono ?_
          rintro e w3 ⟨gs, rfl, hx1, hx2, hx3, hxb⟩
          have HS3 := Lib.hid (HS2.out.callP hxb hx1 hx2 hx3)
          clear hx1 hx2 hx3 hxb
          refine hK.out _ _ ⟨cell_later HS3.out.below k0, cell_later HS3.out.below k1, cell_later HS3.out.below k2⟩ (fun hHeld2 => ?_)
          clear hK K hHeld
          have hHeld := hHeld2
          clear hHeld2
          (try simp only [Act.put, List.setIfInBounds_toArray, List.set_cons_zero, List.set_cons_succ])
          refine wpAnyH_ready (rs := [4]) (by kernel_rfl) (by simp) ?_
          refine AllReadyH.cons (o := ⟨some 3, _, _, _, _, _⟩) rfl (fun K hK => ?_) ?_
          · go_simp
            have HS4 := Lib.hid (HS3.out.al3)
            refine hK.out _ _ ⟨cell_later HS4.out.below k0, cell_later HS4.out.below k1, cell_later HS4.out.below k2⟩ (fun hHeld2 => ?_)
            clear hK K hHeld
            have hHeld := hHeld2
            clear hHeld2
            (try simp only [Act.put, List.setIfInBounds_toArray, List.set_cons_zero, List.set_cons_succ])
            generalize hwe : w3.alloc (.cells #[.pointer none] 90) = w4 at HS4 hHeld ⊢
            clear hwe
            generalize w3.heap.size = b3 at HS4 ⊢
            refine wpAnyH_ready (rs := [6]) (by kernel_rfl) (by simp) ?_
            refine AllReadyH.cons (o := ⟨none, _, _, _, _, _⟩) rfl (fun K hK => ?_) ?_
            · obtain ⟨hst3, hsu3⟩ := HS4.out.st3
              go_simp
              clear hst3 hsu3
              have hbk := Below.setCell (p := ⟨b3, 0, none⟩) HS4.out.below (HS4.out.x3 _ rfl).2 (.pointer (some ⟨xd.1, 0, none⟩))
              refine hK.out _ _ ⟨cell_later hbk k0, cell_later hbk k1, cell_later hbk k2⟩ (fun hHeld2 => ?_)
              clear hbk
              clear hK K hHeld
              have hHeld := hHeld2
              clear hHeld2
              (try simp only [Act.put, List.setIfInBounds_toArray, List.set_cons_zero, List.set_cons_succ])
              refine wpAnyH_ready (rs := [7]) (by kernel_rfl) (by simp) ?_
              refine AllReadyH.cons (o := ⟨none, _, _, _, _, _⟩) rfl (fun K hK => ?_) ?_
              · obtain ⟨hst4, hsu4⟩ := HS4.out.st4 (.pointer (some ⟨xd.1, 0, none⟩))
                go_simp
                clear hst4 hsu4
                have HF := Lib.hid (St4.fin HG.out HS4.out)
                refine hK.out _ _ ⟨cell_later HF.out.below k0, cell_later HF.out.below k1, cell_later HF.out.below k2⟩ (fun hHeld2 => ?_)
                clear hK K hHeld
                have hHeld := hHeld2
                clear hHeld2
                (try simp only [Act.put, List.setIfInBounds_toArray, List.set_cons_zero, List.set_cons_succ])
                refine wpAnyH_done (by kernel_rfl) ?_ _
                go_wp2_with fail
                go_meet
                exact ⟨_, _, _, _, rfl, rfl, Lib.hid HF.out⟩
              exact AllReadyH.nil
            exact AllReadyH.nil
          exact AllReadyH.nil
        refine AllReadyH.cons (o := ⟨some 3, _, _, _, _, _⟩) rfl (fun K hK => ?_) ?_
        · go_simp
          have HS3 := Lib.hid (HS2.out.al3)
          refine hK.out _ _ ⟨cell_later HS3.out.below k0, cell_later HS3.out.below k1, cell_later HS3.out.below k2⟩ (fun hHeld2 => ?_)
          clear hK K hHeld
          have hHeld := hHeld2
          clear hHeld2
          (try simp only [Act.put, List.setIfInBounds_toArray, List.set_cons_zero, List.set_cons_succ])
          generalize hwe : w2.alloc (.cells #[.pointer none] 90) = w3 at HS3 hHeld ⊢
          clear hwe
          generalize w2.heap.size = b3 at HS3 ⊢
          refine wpAnyH_ready (rs := [3]) (by kernel_rfl) (by simp) ?_
          refine AllReadyH.cons (o := ⟨some 20, _, _, _, _, _⟩) rfl (fun K hK => ?_) ?_
          · go_simp
            go_at_call 66
            refine (HP.out _ HS3.out.below).mono ?_
            rintro e w4 ⟨gs, rfl, hx1, hx2, hx3, hxb⟩
            have HS4 := Lib.hid (HS3.out.callP hxb hx1 hx2 hx3)
            clear hx1 hx2 hx3 hxb
            refine hK.out _ _ ⟨cell_later HS4.out.below k0, cell_later HS4.out.below k1, cell_later HS4.out.below k2⟩ (fun hHeld2 => ?_)
            clear hK K hHeld
            have hHeld := hHeld2
            clear hHeld2
            (try simp only [Act.put, List.setIfInBounds_toArray, List.set_cons_zero, List.set_cons_succ])
            refine wpAnyH_ready (rs := [6]) (by kernel_rfl) (by simp) ?_
            refine AllReadyH.cons (o := ⟨none, _, _, _, _, _⟩) rfl (fun K hK => ?_) ?_
            · obtain ⟨hst3, hsu3⟩ := HS4.out.st3
              go_simp
              clear hst3 hsu3
              have hbk := Below.setCell (p := ⟨b3, 0, none⟩) HS4.out.below (HS4.out.x3 _ rfl).2 (.pointer (some ⟨xd.1, 0, none⟩))
              refine hK.out _ _ ⟨cell_later hbk k0, cell_later hbk k1, cell_later hbk k2⟩ (fun hHeld2 => ?_)
              clear hbk
              clear hK K hHeld
              have hHeld := hHeld2
              clear hHeld2
              (try simp only [Act.put, List.setIfInBounds_toArray, List.set_cons_zero, List.set_cons_succ])
              refine wpAnyH_ready (rs := [7]) (by kernel_rfl) (by simp) ?_
              refine AllReadyH.cons (o := ⟨none, _, _, _, _, _⟩) rfl (fun K hK => ?_) ?_
              · obtain ⟨hst4, hsu4⟩ := HS4.out.st4 (.pointer (some ⟨xd.1, 0, none⟩))
                go_simp
                clear hst4 hsu4
                have HF := Lib.hid (St4.fin HG.out HS4.out)
                refine hK.out _ _ ⟨cell_later HF.out.below k0, cell_later HF.out.below k1, cell_later HF.out.below k2⟩ (fun hHeld2 => ?_)
                clear hK K hHeld
                have hHeld := hHeld2
                clear hHeld2
                (try simp only [Act.put, List.setIfInBounds_toArray, List.set_cons_zero, List.set_cons_succ])
                refine wpAnyH_done (by kernel_rfl) ?_ _
                go_wp2_with fail
                go_meet
                exact ⟨_, _, _, _, rfl, rfl, Lib.hid HF.out⟩
              exact AllReadyH.nil
            exact AllReadyH.nil
          exact AllReadyH.nil
        exact AllReadyH.nil
      refine AllReadyH.cons (o := ⟨some 3, _, _, _, _, _⟩) rfl (fun K hK => ?_) ?_
      · go_simp
        have HS2 := Lib.hid (HS1.out.al3)
        refine hK.out _ _ ⟨cell_later HS2.out.below k0, cell_later HS2.out.below k1, cell_later HS2.out.below k2⟩ (fun hHeld2 => ?_)
        clear hK K hHeld
        have hHeld := hHeld2
        clear hHeld2
        (try simp only [Act.put, List.setIfInBounds_toArray, List.set_cons_zero, List.set_cons_succ])
        generalize hwe : w1.alloc (.cells #[.pointer none] 90) = w2 at HS2 hHeld ⊢
        clear hwe
        generalize w1.heap.size = b3 at HS2 ⊢
        refine wpAnyH_ready (rs := [1]) (by kernel_rfl) (by simp) ?_
        refine AllReadyH.cons (o := ⟨some 18, _, _, _, _, _⟩) rfl (fun K hK => ?_) ?_
        · go_simp
          go_at_call 87
          refine (HO.out _ HS2.out.below).mono ?_
          rintro e w3 ⟨xd, rfl, hxd, hxb⟩
          have HS3 := Lib.hid (HS2.out.callD hxb hxd)
          clear hxd hxb
          refine hK.out _ _ ⟨cell_later HS3.out.below k0, cell_later HS3.out.below k1, cell_later HS3.out.below k2⟩ (fun hHeld2 => ?_)
          clear hK K hHeld
          have hHeld := hHeld2
          clear hHeld2
          (try simp only [Act.put, List.setIfInBounds_toArray, List.set_cons_zero, List.set_cons_succ])
          refine wpAnyH_ready (rs := [3]) (by kernel_rfl) (by simp) ?_
          refine AllReadyH.cons (o := ⟨some 20, _, _, _, _, _⟩) rfl (fun K hK => ?_) ?_
          · go_simp
            go_at_call 66
            refine (HP.out _ HS3.out.below).mono ?_
            rintro e w4 ⟨gs, rfl, hx1, hx2, hx3, hxb⟩
            have HS4 := Lib.hid (HS3.out.callP hxb hx1 hx2 hx3)
            clear hx1 hx2 hx3 hxb
            refine hK.out _ _ ⟨cell_later HS4.out.below k0, cell_later HS4.out.below k1, cell_later HS4.out.below k2⟩ (fun hHeld2 => ?_)
            clear hK K hHeld
            have hHeld := hHeld2
            clear hHeld2
            (try simp only [Act.put, List.setIfInBounds_toArray, List.set_cons_zero, List.set_cons_succ])
            refine wpAnyH_ready (rs := [6]) (by kernel_rfl) (by simp) ?_
            refine AllReadyH.cons (o := ⟨none, _, _, _, _, _⟩) rfl (fun K hK => ?_) ?_
            · obtain ⟨hst3, hsu3⟩ := HS4.out.st3
              go_simp
              clear hst3 hsu3
              have hbk := Below.setCell (p := ⟨b3, 0, none⟩) HS4.out.below (HS4.out.x3 _ rfl).2 (.pointer (some ⟨xd.1, 0, none⟩))
              refine hK.out _ _ ⟨cell_later hbk k0, cell_later hbk k1, cell_later hbk k2⟩ (fun hHeld2 => ?_)
              clear hbk
              clear hK K hHeld
              have hHeld := hHeld2
              clear hHeld2
              (try simp only [Act.put, List.setIfInBounds_toArray, List.set_cons_zero, List.set_cons_succ])
              refine wpAnyH_ready (rs := [7]) (by kernel_rfl) (by simp) ?_
              refine AllReadyH.cons (o := ⟨none, _, _, _, _, _⟩) rfl (fun K hK => ?_) ?_
              · obtain ⟨hst4, hsu4⟩ := HS4.out.st4 (.pointer (some ⟨xd.1, 0, none⟩))
                go_simp
                clear hst4 hsu4
                have HF := Lib.hid (St4.fin HG.out HS4.out)
                refine hK.out _ _ ⟨cell_later HF.out.below k0, cell_later HF.out.below k1, cell_later HF.out.below k2⟩ (fun hHeld2 => ?_)
                clear hK K hHeld
                have hHeld := hHeld2
                clear hHeld2
                (try simp only [Act.put, List.setIfInBounds_toArray, List.set_cons_zero, List.set_cons_succ])
                refine wpAnyH_done (by kernel_rfl) ?_ _
                go_wp2_with fail
                go_meet
                exact ⟨_, _, _, _, rfl, rfl, Lib.hid HF.out⟩
              exact AllReadyH.nil
            exact AllReadyH.nil
          exact AllReadyH.nil
        exact AllReadyH.nil
      exact AllReadyH.nil
    exact AllReadyH.nil
  case rest =>
  obtain ⟨⟨db, oa, oc, sb⟩, gs, b3, b4, rfl, rfl, HE⟩ := hcut
  have HE := Lib.hid (show End4 params (n : Int) ba bc (nxs ⟨params, (n : Int), blocks⟩) n (setsP n (evBl blocks blocks.length)) W1 wc (db, oa, oc, sb) gs b3 b4 from HE.out)
  have HSB := Lib.hid (show singleB ⟨params, (n : Int), blocks⟩ = (decide ((leftOf (nxs ⟨params, (n : Int), blocks⟩)).length = blocks.length) && (rowsOnce (setsP n (evBl blocks blocks.length)) params n && blocksRuled (setsP n (evBl blocks blocks.length)) ⟨params, (n : Int), blocks⟩ blocks.length)) by
    rw [singleB, hgl, show codeSets ⟨params, (n : Int), blocks⟩ = setsP n (evBl blocks blocks.length) from rfl, Int.toNat_natCast])
  clear k0 k1 k2 HO HP HG
  have hLl := evBl_small (bs := blocks) hsz
  have HPI := Lib.hid (plIn_of n blocks)
  have HL := Lib.hid (show ∃ L, L = evBl blocks blocks.length from ⟨_, rfl⟩)
  generalize evBl blocks blocks.length = L at HE HSB hLl HPI HL
  have HBC := Lib.hid (HC.out.1.trans (HE.out.below.mono HC.out.1.size))
  have HCB := Lib.hid ((HE.out.below.block _ (Array.getElem?_eq_some_iff.1 HC.out.2.1).1).trans HC.out.2.1)
  have m0 := cell_of_row _ _ 0 _ _ _ HCB.out
  have m1 := cell_of_row _ _ 1 _ _ _ HCB.out
  have m2 := cell_of_row _ _ 2 _ _ _ HCB.out
  simp only [List.getElem?_toArray, List.getElem?_cons_zero, List.getElem?_cons_succ] at m0 m1 m2
  have i4 : wc.cell? ⟨db, 4, none⟩ = some (.slice (some ⟨sb, 0, none⟩) blocks.length blocks.length) := by
    rw [← hgl]; exact cell_of_row _ _ 4 _ _ _ HE.out.dom.blk
  have c3 : wc.cell? ⟨b3, 0, none⟩ = some (.pointer (some ⟨db, 0, none⟩)) := HE.out.c3
  have c4 : wc.cell? ⟨b4, 0, none⟩ = some (.slice (some ⟨gs, 0, none⟩) n n) := HE.out.c4
  have HIN := Lib.hid (containsFalse_any (some ⟨sb, 0, none⟩) blocks.length blocks.length (reachRow (nxs ⟨params, (n : Int), blocks⟩) (-1)) wc (by rw [← hgl]; exact HE.out.dom.inn) (by omega))
  go_wp2_with fail
  refine HIN.out.mono ?_
  rw [any_out hF, hgl]
  cases hfull : decide ((leftOf (nxs ⟨params, (n : Int), blocks⟩)).length = blocks.length) with
  | false =>
    have HN := Lib.hid (show singleB ⟨params, (n : Int), blocks⟩ = false by rw [HSB.out, hfull]; rfl)
    clear hfull
    rintro e w2 ⟨rfl, rfl⟩
    go_wp2
    go_ret
    exact ⟨ret_bool HN.out.symm, HBC.out⟩
  | true =>
    have HSB2 := Lib.hid (show singleB ⟨params, (n : Int), blocks⟩ = (rowsOnce (setsP n L) params n && blocksRuled (setsP n L) ⟨params, (n : Int), blocks⟩ blocks.length) by rw [HSB.out, hfull, Bool.true_and])
    clear hfull HIN i4 HSB
    rintro e w2 ⟨rfl, rfl⟩
    go_wp2_with fail
    go_loopg [28] n (fun F i wr => ∃ r : Nat, r + F = n ∧ i = .int .i64 r ∧ wr = wc ∧ Hid (rowsOnce (setsP n L) params r = true))
    case atStart => exact ⟨0, by omega, rfl, rfl, Lib.hid rfl⟩
    case round =>
      obtain ⟨r, hr, rfl, rfl, HK⟩ := hrel
      by_cases hlt : r < n
      · obtain ⟨ra, rc, ps, hps, hrow, _⟩ := HE.out.pl.row r hlt
        have hpl := setsP_small hps
        have hri : (r : Int) < (n : Int) := by omega
        have hpl2 : ps.length ≤ 1048576 := by omega
        by_cases h1 : 1 < ps.length
        · have h1i : (1 : Int) < (ps.length : Int) := by omega
          have HN := Lib.hid (show singleB ⟨params, (n : Int), blocks⟩ = false by
            rw [HSB2.out, rowsOnce_stop hps (.inl h1) hlt]; rfl)
          clear hps
          go_wp2
          go_ret
          exact ⟨ret_bool HN.out.symm, HBC.out⟩
        · have h1i : ¬ (1 : Int) < (ps.length : Int) := by omega
          by_cases hrp : (r : Int) < params
          · by_cases hz : 0 < ps.length
            · have hzi : (0 : Int) < (ps.length : Int) := by omega
              have HN := Lib.hid (show singleB ⟨params, (n : Int), blocks⟩ = false by
                rw [HSB2.out, rowsOnce_stop hps (.inr ⟨hrp, hz⟩) hlt]; rfl)
              clear hps
              go_wp2
              go_ret
              exact ⟨ret_bool HN.out.symm, HBC.out⟩
            · have hzi : ¬ (0 : Int) < (ps.length : Int) := by omega
              have HN := Lib.hid (rowsOnce_next HK.out hps h1 (fun h => hz h.2))
              clear hps
              go_wp2
              go_roundg (gk - 1)
              case measure => omega
              case rel => exact ⟨r + 1, by omega, by go_num, rfl, HN⟩
          · have HN := Lib.hid (rowsOnce_next HK.out hps h1 (fun h => hrp h.1))
            clear hps
            go_wp2
            go_roundg (gk - 1)
            case measure => omega
            case rel => exact ⟨r + 1, by omega, by go_num, rfl, HN⟩
      · obtain rfl : r = n := by omega
        have HSB3 := Lib.hid (show singleB ⟨params, (r : Int), blocks⟩ = blocksRuled (setsP r L) ⟨params, (r : Int), blocks⟩ blocks.length by
          rw [HSB2.out, HK.out, Bool.true_and])
        have hst := run_store_new wr wr.heap.size .nilFunc (.func (.func 123) #[] #[.pointer (some ⟨w.heap.size, 0, none⟩), .pointer (some ⟨b4, 0, none⟩), .pointer (some ⟨b3, 0, none⟩)]) 105 rfl rfl
        have hbf : Below wr.heap.size wr (wr.alloc (.cells #[.func (.func 123) #[] #[.pointer (some ⟨w.heap.size, 0, none⟩), .pointer (some ⟨b4, 0, none⟩), .pointer (some ⟨b3, 0, none⟩)]] 105)) := (Below.refl _ _).alloc (Nat.le_refl _) _
        have HW := Lib.hid (And.intro (HBC.out.trans (hbf.mono HBC.out.size)) (And.intro ((hbf.block _ (Array.getElem?_eq_some_iff.1 HCB.out).1).trans HCB.out) (And.intro (HE.out.dom.later hbf) (And.intro (HE.out.pl.later hbf) (And.intro (cell_later hbf c3) (And.intro (cell_later hbf c4) (heap_alloc_new wr (.cells #[.func (.func 123) #[] #[.pointer (some ⟨w.heap.size, 0, none⟩), .pointer (some ⟨b4, 0, none⟩), .pointer (some ⟨b3, 0, none⟩)]] 105))))))))
        have m2' := cell_later hbf m2
        have HHG := Lib.hid hg
        have HHC := Lib.hid hc
        have HFT := Lib.hid (And.intro hF hgl)
        clear hbf hg hc hF m0 m1 c3 c4 HK HSB2 hgl
        go_upto_region 12 with fail
        clear hst m2 m2'
        obtain ⟨bf, hbf⟩ : ∃ bf, bf = wr.heap.size := ⟨_, rfl⟩
        rw [← hbf] at HW ⊢
        clear hbf
        generalize wr.alloc (.cells #[.func (.func 123) #[] #[.pointer (some ⟨w.heap.size, 0, none⟩), .pointer (some ⟨b4, 0, none⟩), .pointer (some ⟨b3, 0, none⟩)]] 105) = WF at HW ⊢
        have HQ := Lib.hid (fun (W : World) (hW : Below WF.heap.size WF W) (r' b' i' : Int) (hr' : 0 ≤ r' ∧ r' < (r : Int)) (hb' : 0 ≤ b' ∧ b' < (blocks.length : Int)) =>
          ruled_any params (r : Int) ba bc (nxs ⟨params, (r : Int), blocks⟩) HFT.out.1 (by rw [HFT.out.2]; exact hbl) gs r L db oa oc sb w.heap.size b4 b3 r' b' i' W
            (cell_of_row _ _ 0 _ _ _ ((hW.block _ (Array.getElem?_eq_some_iff.1 HW.out.2.1).1).trans HW.out.2.1)) (cell_later hW HW.out.2.2.2.2.2.1) (cell_later hW HW.out.2.2.2.2.1) (HW.out.2.2.2.1.later hW) (HW.out.2.2.1.later hW) (by rw [HFT.out.2]; exact HPI.out) hr' (by rw [HFT.out.2]; exact hb') hLl)
        go_loopg [52] blocks.length (fun F i wr => ∃ b : Nat, b + F = blocks.length ∧ i = .int .i64 b ∧ Hid (Below WF.heap.size WF wr ∧ blocksRuled (setsP r L) ⟨params, (r : Int), blocks⟩ b = true))
        case atStart => exact ⟨0, by omega, rfl, Lib.hid ⟨Below.refl _ _, rfl⟩⟩
        case round =>
          obtain ⟨b, hb, rfl, HK⟩ := hrel
          have HBW := Lib.hid (HW.out.1.trans (HK.out.1.mono HW.out.1.size))
          by_cases hlt : b < blocks.length
          · obtain ⟨ba', bc', hcs, _, hrd⟩ := codeR_lasts _ _ _ _ HBW.out HC.out.2.2
            simp only [List.cons.injEq, Value.slice.injEq, and_true, true_and] at hcs
            obtain ⟨rfl, rfl⟩ := hcs
            obtain ⟨b1, o1, phis, ins, jump, jon, nx, pa, pc, ia, ic, na, nc, rfl, hx, d0, d1, d2, d3, d4, hR⟩ := block_place hrd hlt
            have hbi : (b : Int) < (blocks.length : Int) := by omega
            have hz := (szS_get (sz := szBlockD) hsz hx).1
            have hzb := szBlock_parts hz
            have hil : ins.length ≤ 1048576 := Nat.le_trans (szS_len szInsD ins) hzb.2.1
            have hpl : phis.length ≤ 1048576 := Nat.le_trans (szS_len szPhiD phis) hzb.1
            have hR2 := hR
            obtain ⟨_, _, _, _, _, _, hcs, hph, hins, _⟩ := hR2
            simp only [List.cons.injEq, Value.slice.injEq, and_true, true_and] at hcs
            obtain ⟨⟨rfl, rfl⟩, ⟨rfl, rfl⟩, rfl, rfl⟩ := hcs
            have HX := Lib.hid (And.intro hx (And.intro hph.2 (And.intro hins.2 (And.intro hzb (code_jumps HHC.out _ (List.mem_of_getElem? hx))))))
            have HOK := Lib.hid (blkOk_of HHC.out hx rfl)
            clear hrd hx hR hph hins hz hzb
            go_upto_region 14 with fail
            have hba2 : Below wr.heap.size wr ((wr.alloc (.cells #[.int .i64 (b : Int)] 3)).alloc (.cells #[.slice pa phis.length pc, .slice ia ins.length ic, .int .i64 jump, .int .i64 jon, .slice na nx.length nc] 70)) := ((Below.refl _ _).alloc (Nat.le_refl _) _).alloc (by simp) _
            have HB2 := Lib.hid (And.intro (HK.out.1.trans (hba2.mono HK.out.1.size)) (And.intro (heap_alloc2_old wr (.cells #[.int .i64 (b : Int)] 3) (.cells #[.slice pa phis.length pc, .slice ia ins.length ic, .int .i64 jump, .int .i64 jon, .slice na nx.length nc] 70)) (And.intro (heap_alloc2_new wr (.cells #[.int .i64 (b : Int)] 3) (.cells #[.slice pa phis.length pc, .slice ia ins.length ic, .int .i64 jump, .int .i64 jon, .slice na nx.length nc] 70)) (And.intro (HX.out.2.1.later phiR_lasts hba2) (HX.out.2.2.1.later insR_lasts hba2)))))
            have HBR0 := Lib.hid HK.out.2
            obtain ⟨bb, hbb⟩ : ∃ bb, bb = wr.heap.size := ⟨_, rfl⟩
            generalize (wr.alloc (.cells #[.int .i64 (b : Int)] 3)).alloc (.cells #[.slice pa phis.length pc, .slice ia ins.length ic, .int .i64 jump, .int .i64 jon, .slice na nx.length nc] 70) = WB at HB2 ⊢
            rw [← hbb] at HB2 ⊢
            clear hbb hba2 d0 d1 d2 d3 d4 HK HBW
            have hcb := (HB2.out.1.block _ (Array.getElem?_eq_some_iff.1 HW.out.2.1).1).trans HW.out.2.1
            have k0 : WB.cell? ⟨w.heap.size, 0, none⟩ = some (.int .i64 params) := cell_of_row _ _ 0 _ _ _ hcb
            have k1 : WB.cell? ⟨w.heap.size, 1, none⟩ = some (.int .i64 (r : Int)) := cell_of_row _ _ 1 _ _ _ hcb
            have k2 : WB.cell? ⟨w.heap.size, 2, none⟩ = some (.slice (some ⟨b1, o1, none⟩) blocks.length bc) := cell_of_row _ _ 2 _ _ _ hcb
            have q8 : WB.cell? ⟨bb, 0, none⟩ = some (.int .i64 (b : Int)) := cell_of_row _ _ 0 _ _ _ HB2.out.2.1
            have HPR := Lib.hid (show Calls Try.prog 115 #[.agg #[.int .i64 params, .int .i64 (r : Int), .slice (some ⟨b1, o1, none⟩) blocks.length bc], .int .i64 (b : Int)] WB (fun e w' => RetInts WB (preds (nxs ⟨params, (r : Int), blocks⟩) (b : Int)) (preds (nxs ⟨params, (r : Int), blocks⟩) (b : Int)).length e w') from by
              have h := predsOf_any params (r : Int) (some ⟨b1, o1, none⟩) bc (nxs ⟨params, (r : Int), blocks⟩) (b : Int) (okN_iff.2 ⟨by omega, by rw [HFT.out.2]; exact hbi⟩) WB (HHG.out.later (HW.out.1.trans (HB2.out.1.mono HW.out.1.size)))
              rwa [HFT.out.2] at h)
            clear hcb
            go_wp2_with fail
            refine HPR.out.mono ?_
            have hpp := preds_len (nxs ⟨params, (r : Int), blocks⟩) (b : Int)
            rw [HFT.out.2] at hpp
            have HPM := Lib.hid (fun k y (h : (preds (nxs ⟨params, (r : Int), blocks⟩) (b : Int))[k]? = some y) => by
              obtain ⟨i, hi, _, he⟩ := filtTo_mem (show y ∈ filtTo (predB (nxs ⟨params, (r : Int), blocks⟩) (b : Int)) (nxs ⟨params, (r : Int), blocks⟩).length from List.mem_of_getElem? h)
              exact (⟨i, by rwa [HFT.out.2] at hi, he⟩ : ∃ i : Nat, i < blocks.length ∧ y = (i : Int)))
            have HBR := Lib.hid (show blockRuled (setsP r L) ⟨params, (r : Int), blocks⟩ b ⟨phis, ins, jump, jon, nx⟩ = (phis.all (phiRuled (setsP r L) ⟨params, (r : Int), blocks⟩ (preds (nxs ⟨params, (r : Int), blocks⟩) (b : Int))) && (insAll (setsP r L) ⟨params, (r : Int), blocks⟩ b ins ins.length && (jump == 1 || ruleB (setsP r L) (nxs ⟨params, (r : Int), blocks⟩) params jon (b : Int) ins.length))) from rfl)
            have HPH := Lib.hid (fun f => show phiRuled (setsP r L) ⟨params, (r : Int), blocks⟩ (preds (nxs ⟨params, (r : Int), blocks⟩) (b : Int)) f = (List.range (preds (nxs ⟨params, (r : Int), blocks⟩) (b : Int)).length).all (fun k => ruleB (setsP r L) (nxs ⟨params, (r : Int), blocks⟩) params (f.args.getD k 0) ((preds (nxs ⟨params, (r : Int), blocks⟩) (b : Int)).getD k 0) (insLen blocks ((preds (nxs ⟨params, (r : Int), blocks⟩) (b : Int)).getD k 0))) from rfl)
            have HOP := Lib.hid (fun f (hf : f ∈ phis) => HOK.out.phi f hf)
            rintro e w1 ⟨pra, prc, rfl, hown1, hb1⟩
            generalize preds (nxs ⟨params, (r : Int), blocks⟩) (b : Int) = ps at HPM HBR HPH HOP hpp hown1 ⊢
            have H1 := Lib.hid (And.intro (ints_of_own hown1).toIntsRd (And.intro (HB2.out.1.trans (hb1.mono HB2.out.1.size)) (And.intro ((hb1.block _ (Array.getElem?_eq_some_iff.1 HB2.out.2.1).1).trans HB2.out.2.1) (And.intro ((hb1.block _ (Array.getElem?_eq_some_iff.1 HB2.out.2.2.1).1).trans HB2.out.2.2.1) (And.intro (HB2.out.2.2.2.1.later phiR_lasts hb1) (HB2.out.2.2.2.2.later insR_lasts hb1))))))
            have HFALSE := Lib.hid (fun (h : blockRuled (setsP r L) ⟨params, (r : Int), blocks⟩ b ⟨phis, ins, jump, jon, nx⟩ = false) => show singleB ⟨params, (r : Int), blocks⟩ = false by
              rw [HSB3.out, blocksRuled_stop HX.out.1 h hlt])
            clear hown1 hb1 k0 k1 k2 q8 HPR HB2
            have m0 : w1.cell? ⟨bb + 1, 0, none⟩ = some (.slice pa phis.length pc) := cell_of_row _ _ 0 _ _ _ H1.out.2.2.2.1
            go_wp2_with fail
            clear m0
            go_loopg [63] phis.length (fun F i wr => ∃ j : Nat, j + F = phis.length ∧ i = .int .i64 j ∧ Hid ((phis.take j).all (phiRuled (setsP r L) ⟨params, (r : Int), blocks⟩ ps) = true ∧ Below w1.heap.size w1 wr))
            case atStart => exact ⟨0, by omega, rfl, Lib.hid ⟨rfl, Below.refl _ _⟩⟩
            case round =>
              obtain ⟨j, hj, rfl, HK⟩ := hrel
              by_cases hltj : j < phis.length
              · obtain ⟨b2, o2, ft, args, aa, ac, rfl, hxj, p0, p1, hRf⟩ := phi_place (H1.out.2.2.2.2.1.later phiR_lasts HK.out.2) hltj
                obtain ⟨_, _, hcf, _, hargs⟩ := hRf
                simp only [List.cons.injEq, Value.slice.injEq, and_true, true_and] at hcf
                obtain ⟨rfl, rfl⟩ := hcf
                have hargs : IntsRd wr aa args.length args := hargs
                have hfa := HOP.out _ (List.mem_of_getElem? hxj)
                have hal : args.length = ps.length := hfa.1
                have hba : Below wr.heap.size wr (wr.alloc (.cells #[.int .i64 ft, .slice aa args.length ac] 107)) := (Below.refl _ _).alloc (Nat.le_refl _) _
                have hji : (j : Int) < (phis.length : Int) := by omega
                have c1' : (wr.alloc (.cells #[.int .i64 ft, .slice aa args.length ac] 107)).cell? ⟨wr.heap.size, 1, none⟩ = some (.slice aa args.length ac) := cell_of_row _ _ 1 _ _ _ (heap_alloc_new wr _)
                have HA := Lib.hid (And.intro hxj (And.intro hfa.2 (And.intro (hargs.later hba) (HK.out.2.trans (hba.mono HK.out.2.size)))))
                have HAL := Lib.hid hal
                clear hxj hfa hargs hba hal
                go_wp2_with fail
                generalize wr.alloc (.cells #[.int .i64 ft, .slice aa args.length ac] 107) = wp at HA c1' ⊢
                clear c1' p0 p1
                go_loopg [70] ps.length (fun F i wq => ∃ k : Nat, k + F = ps.length ∧ i = .int .i64 k ∧ Hid (((List.range ps.length).take k).all (fun k => ruleB (setsP r L) (nxs ⟨params, (r : Int), blocks⟩) params (args.getD k 0) (ps.getD k 0) (insLen blocks (ps.getD k 0))) = true ∧ Below wp.heap.size wp wq))
                case atStart => exact ⟨0, by omega, rfl, Lib.hid ⟨rfl, Below.refl _ _⟩⟩
                case round =>
                  obtain ⟨k, hk, rfl, HQ2⟩ := hrel
                  by_cases hltk : k < ps.length
                  · have hB1 := HA.out.2.2.2.trans (HQ2.out.2.mono HA.out.2.2.2.size)
                    have hBF := H1.out.2.1.trans (hB1.mono H1.out.2.1.size)
                    have hBw := HW.out.1.trans (hBF.mono HW.out.1.size)
                    have hcb := (hBF.block _ (Array.getElem?_eq_some_iff.1 HW.out.2.1).1).trans HW.out.2.1
                    have k2 : wr.cell? ⟨w.heap.size, 2, none⟩ = some (.slice (some ⟨b1, o1, none⟩) blocks.length bc) := cell_of_row _ _ 2 _ _ _ hcb
                    have k7 : wr.cell? ⟨bf, 0, none⟩ = some (.func (.func 123) #[] #[.pointer (some ⟨w.heap.size, 0, none⟩), .pointer (some ⟨b4, 0, none⟩), .pointer (some ⟨b3, 0, none⟩)]) := cell_of_row _ _ 0 _ _ _ ((hBF.block _ (Array.getElem?_eq_some_iff.1 HW.out.2.2.2.2.2.2).1).trans HW.out.2.2.2.2.2.2)
                    obtain ⟨pb, po, y, rfl, hy, hcy⟩ := (H1.out.1.later hB1).place hltk
                    obtain ⟨yn, hyn, rfl⟩ := HPM.out k y hy
                    obtain ⟨ab, ao, rr, hab2, hrr, hcr⟩ := (HA.out.2.2.1.later HQ2.out.2).place (i := k) (by have := HAL.out; omega)
                    subst hab2
                    have hrin := HA.out.2.1 rr (List.mem_of_getElem? hrr)
                    have hrdq : SliceRd 5 BlockR wr (some ⟨b1, o1, none⟩) blocks.length blocks := by
                      obtain ⟨_, _, he, _, h2⟩ := codeR_lasts _ _ _ _ hBw HC.out.2.2
                      simp only [List.cons.injEq, Value.slice.injEq, and_true, true_and] at he
                      obtain ⟨rfl, rfl⟩ := he
                      exact h2
                    obtain ⟨b3', o3', phis3, ins3, jump3, jon3, nx3, pa3, pc3, ia3, ic3, na3, nc3, hab, hx3, _, q1, _, _, _, _⟩ := block_place hrdq hyn
                    cases hab
                    have hyi : (yn : Int) < (blocks.length : Int) := by omega
                    have hki : (k : Int) < (ps.length : Int) := by omega
                    have hkai : (k : Int) < (args.length : Int) := by have := HAL.out; omega
                    have HV := Lib.hid (show (fun k => ruleB (setsP r L) (nxs ⟨params, (r : Int), blocks⟩) params (args.getD k 0) (ps.getD k 0) (insLen blocks (ps.getD k 0))) k = ruleB (setsP r L) (nxs ⟨params, (r : Int), blocks⟩) params rr (yn : Int) (ins3.length : Nat) by
                      simp only [List.getD_eq_getElem?_getD, hrr, hy, Option.getD_some]
                      rw [insLen_of hx3])
                    have HRG := Lib.hid (show (List.range ps.length)[k]? = some k by simp [hltk])
                    have HBW := Lib.hid hBF
                    clear hcb hy hrr hx3 hB1 hBF hBw hrdq
                    go_wp2_with fail
                    go_still_tail 16, (by kernel_rfl)
                    change wpList _ _ _ _ _ wr.drew
                    have HD := Lib.hid (show Below wr.heap.size wr wr.drew from (Below.refl _ _).drew)
                    clear k2 k7 hcy hcr q1
                    generalize wr.drew = wd at HD ⊢
                    go_wp2_with fail
                    refine (HQ.out wd (HBW.out.trans (HD.out.mono HBW.out.size)) rr (yn : Int) (ins3.length : Nat) hrin ⟨by omega, hyi⟩).mono ?_
                    cases hv : ruleB (setsP r L) (nxs ⟨params, (r : Int), blocks⟩) params rr (yn : Int) (ins3.length : Nat) with
                    | true =>
                      rintro e w2 ⟨rfl, hb2⟩
                      have HN := Lib.hid (And.intro (all_next HQ2.out.1 HRG.out (HV.out.trans hv)) (HQ2.out.2.trans ((HD.out.trans (hb2.mono HD.out.size)).mono HQ2.out.2.size)))
                      clear hb2 hv
                      go_wp2
                      go_roundg (gk - 1)
                      case measure => omega
                      case rel => exact ⟨k + 1, by omega, by go_num, HN⟩
                    | false =>
                      rintro e w2 ⟨rfl, hb2⟩
                      have HN := Lib.hid (HFALSE.out (by
                        rw [HBR.out, all_stop HA.out.1 (by rw [HPH.out]; exact all_stop HRG.out (HV.out.trans hv))]; rfl))
                      have HBE := Lib.hid (HW.out.1.trans ((HBW.out.trans ((HD.out.trans (hb2.mono HD.out.size)).mono HBW.out.size)).mono HW.out.1.size))
                      clear hb2 hv
                      go_wp2
                      go_ret
                      exact ⟨ret_bool HN.out.symm, HBE.out⟩
                  · obtain rfl : k = ps.length := by omega
                    have hkai : ¬ ((ps.length : Nat) : Int) < (args.length : Int) := by have := HAL.out; omega
                    have HN := Lib.hid (all_next HK.out.1 HA.out.1 (by
                      rw [HPH.out]
                      have := HQ2.out.1
                      rw [List.take_of_length_le (by simp)] at this
                      exact this))
                    go_wp2
                    go_roundg (phis.length - (j + 1))
                    case measure => omega
                    case rel => exact ⟨j + 1, by omega, by go_num, Lib.hid ⟨HN.out, HA.out.2.2.2.trans (HQ2.out.2.mono HA.out.2.2.2.size)⟩⟩
              · obtain rfl : j = phis.length := by omega
                have HB2 := Lib.hid (show blockRuled (setsP r L) ⟨params, (r : Int), blocks⟩ b ⟨phis, ins, jump, jon, nx⟩ = (insAll (setsP r L) ⟨params, (r : Int), blocks⟩ b ins ins.length && (jump == 1 || ruleB (setsP r L) (nxs ⟨params, (r : Int), blocks⟩) params jon (b : Int) ins.length)) by
                  have := HK.out.1
                  rw [List.take_length] at this
                  rw [HBR.out, this, Bool.true_and])
                have HC2 := Lib.hid HK.out.2
                have hbb := (HC2.out.block _ (Array.getElem?_eq_some_iff.1 H1.out.2.2.2.1).1).trans H1.out.2.2.2.1
                have m1 : wr.cell? ⟨bb + 1, 1, none⟩ = some (.slice ia ins.length ic) := cell_of_row _ _ 1 _ _ _ hbb
                clear hbb
                go_wp2_with fail
                clear m1
                go_loopg [98] ins.length (fun F i wq => ∃ j : Nat, j + F = ins.length ∧ i = .int .i64 j ∧ Hid (insAll (setsP r L) ⟨params, (r : Int), blocks⟩ b ins j = true ∧ Below w1.heap.size w1 wq))
                case atStart => exact ⟨0, by omega, rfl, Lib.hid ⟨rfl, HC2.out⟩⟩
                case round =>
                  obtain ⟨j, hj, rfl, HJ⟩ := hrel
                  by_cases hltj : j < ins.length
                  · obtain ⟨b2, o2, op, tr, args, num, aa, ac, rfl, hxj, p0, p1, p2, p3, hRf⟩ := ins_place (H1.out.2.2.2.2.2.later insR_lasts HJ.out.2) hltj
                    obtain ⟨_, _, hcf, _, hargs⟩ := hRf
                    simp only [List.cons.injEq, Value.slice.injEq, and_true, true_and] at hcf
                    obtain ⟨rfl, rfl⟩ := hcf
                    have hargs : IntsRd wr aa args.length args := hargs
                    have hargl : args.length ≤ 1048576 := Nat.le_trans (szS_mem (sz := szInsD) (List.mem_of_getElem? hxj)) HX.out.2.2.2.1.2.1
                    have hji : (j : Int) < (ins.length : Int) := by omega
                    have hba2 : Below wr.heap.size wr ((wr.alloc (.cells #[.int .i64 (j : Int)] 3)).alloc (.cells #[.int .i64 op, .int .i64 tr, .slice aa args.length ac, .int .i64 num] 72)) := ((Below.refl _ _).alloc (Nat.le_refl _) _).alloc (by simp) _
                    have hi1 := heap_alloc2_old wr (.cells #[.int .i64 (j : Int)] 3) (.cells #[.int .i64 op, .int .i64 tr, .slice aa args.length ac, .int .i64 num] 72)
                    have hi2 := heap_alloc2_new wr (.cells #[.int .i64 (j : Int)] 3) (.cells #[.int .i64 op, .int .i64 tr, .slice aa args.length ac, .int .i64 num] 72)
                    have e2 : ((wr.alloc (.cells #[.int .i64 (j : Int)] 3)).alloc (.cells #[.int .i64 op, .int .i64 tr, .slice aa args.length ac, .int .i64 num] 72)).cell? ⟨wr.heap.size + 1, 2, none⟩ = some (.slice aa args.length ac) := cell_of_row _ _ 2 _ _ _ hi2
                    have HI := Lib.hid (And.intro hi1 (And.intro (HJ.out.2.trans (hba2.mono HJ.out.2.size)) (And.intro (hargs.later hba2) (And.intro hxj (HOK.out.ins _ (List.mem_of_getElem? hxj))))))
                    have HIR := Lib.hid (show insRuled (setsP r L) ⟨params, (r : Int), blocks⟩ b j ⟨op, tr, args, num⟩ = args.all (fun y => ruleB (setsP r L) (nxs ⟨params, (r : Int), blocks⟩) params y (b : Int) (j : Int)) from rfl)
                    clear hxj hargs hba2 hi1 hi2
                    go_wp2_with fail
                    generalize (wr.alloc (.cells #[.int .i64 (j : Int)] 3)).alloc (.cells #[.int .i64 op, .int .i64 tr, .slice aa args.length ac, .int .i64 num] 72) = wi at HI e2 ⊢
                    obtain ⟨ib, hib⟩ : ∃ ib, ib = wr.heap.size := ⟨_, rfl⟩
                    rw [← hib] at HI e2 ⊢
                    clear hib p0 p1 p2 p3 e2
                    have HBF := Lib.hid (H1.out.2.1.trans (HI.out.2.1.mono H1.out.2.1.size))
                    have HFn := Lib.hid (⟨fun _ _ => rfl, fun x hx W hW =>
                      notRuled_any (ruleB (setsP r L) (nxs ⟨params, (r : Int), blocks⟩) params x (b : Int) (j : Int)) bf bb ib x (b : Int) (j : Int) W w.heap.size b4 b3
                        (cell_of_row _ _ 0 _ _ _ ((hW.block _ (Nat.lt_of_lt_of_le (Array.getElem?_eq_some_iff.1 HW.out.2.2.2.2.2.2).1 HBF.out.size)).trans ((HBF.out.block _ (Array.getElem?_eq_some_iff.1 HW.out.2.2.2.2.2.2).1).trans HW.out.2.2.2.2.2.2)))
                        (cell_of_row _ _ 0 _ _ _ ((hW.block _ (Nat.lt_of_lt_of_le (Array.getElem?_eq_some_iff.1 H1.out.2.2.1).1 HI.out.2.1.size)).trans ((HI.out.2.1.block _ (Array.getElem?_eq_some_iff.1 H1.out.2.2.1).1).trans H1.out.2.2.1)))
                        (cell_of_row _ _ 0 _ _ _ ((hW.block _ (Array.getElem?_eq_some_iff.1 HI.out.1).1).trans HI.out.1))
                        (HQ.out W (HBF.out.trans (hW.mono HBF.out.size)) x (b : Int) (j : Int) (HI.out.2.2.2.2 x hx) ⟨by omega, hbi⟩)⟩ :
                      IntFn wi 124 #[.pointer (some ⟨bf, 0, none⟩), .pointer (some ⟨bb, 0, none⟩), .pointer (some ⟨ib, 0, none⟩)] args (fun y => !ruleB (setsP r L) (nxs ⟨params, (r : Int), blocks⟩) params y (b : Int) (j : Int)))
                    refine (containsInts_any _ _ _ aa args.length ac args wi HI.out.2.2.1 HFn.out (by omega)).mono ?_
                    rw [← List.not_all_eq_any_not]
                    cases hv : args.all (fun y => ruleB (setsP r L) (nxs ⟨params, (r : Int), blocks⟩) params y (b : Int) (j : Int)) with
                    | true =>
                      rintro e w2 ⟨rfl, hb2⟩
                      have HN := Lib.hid (And.intro (insAll_next HJ.out.1 HI.out.2.2.2.1 (HIR.out.trans hv)) (HI.out.2.1.trans (hb2.mono HI.out.2.1.size)))
                      clear hb2 hv
                      go_wp2
                      go_roundg (gk - 1)
                      case measure => omega
                      case rel => exact ⟨j + 1, by omega, by go_num, HN⟩
                    | false =>
                      rintro e w2 ⟨rfl, hb2⟩
                      have HN := Lib.hid (HFALSE.out (by
                        rw [HB2.out, insAll_stop HI.out.2.2.2.1 (HIR.out.trans hv) hltj]; rfl))
                      have HBE := Lib.hid (HW.out.1.trans ((HBF.out.trans (hb2.mono HBF.out.size)).mono HW.out.1.size))
                      clear hb2 hv
                      go_wp2
                      go_ret
                      exact ⟨ret_bool HN.out.symm, HBE.out⟩
                  · obtain rfl : j = ins.length := by omega
                    have HBF := Lib.hid (H1.out.2.1.trans (HJ.out.2.mono H1.out.2.1.size))
                    have hbb := (HJ.out.2.block _ (Array.getElem?_eq_some_iff.1 H1.out.2.2.2.1).1).trans H1.out.2.2.2.1
                    have m1 : wr.cell? ⟨bb + 1, 1, none⟩ = some (.slice ia ins.length ic) := cell_of_row _ _ 1 _ _ _ hbb
                    have m2 : wr.cell? ⟨bb + 1, 2, none⟩ = some (.int .i64 jump) := cell_of_row _ _ 2 _ _ _ hbb
                    have m3 : wr.cell? ⟨bb + 1, 3, none⟩ = some (.int .i64 jon) := cell_of_row _ _ 3 _ _ _ hbb
                    have q8 : wr.cell? ⟨bb, 0, none⟩ = some (.int .i64 (b : Int)) := cell_of_row _ _ 0 _ _ _ ((HJ.out.2.block _ (Array.getElem?_eq_some_iff.1 H1.out.2.2.1).1).trans H1.out.2.2.1)
                    have k7 : wr.cell? ⟨bf, 0, none⟩ = some (.func (.func 123) #[] #[.pointer (some ⟨w.heap.size, 0, none⟩), .pointer (some ⟨b4, 0, none⟩), .pointer (some ⟨b3, 0, none⟩)]) := cell_of_row _ _ 0 _ _ _ ((HBF.out.block _ (Array.getElem?_eq_some_iff.1 HW.out.2.2.2.2.2.2).1).trans HW.out.2.2.2.2.2.2)
                    have HB4 := Lib.hid (show blockRuled (setsP r L) ⟨params, (r : Int), blocks⟩ b ⟨phis, ins, jump, jon, nx⟩ = (jump == 1 || ruleB (setsP r L) (nxs ⟨params, (r : Int), blocks⟩) params jon (b : Int) ins.length) by
                      rw [HB2.out, HJ.out.1, Bool.true_and])
                    clear hbb
                    by_cases hj1 : jump = 1
                    · have hu : usesJ jump = false := by subst hj1; rfl
                      have HN := Lib.hid (blocksRuled_next HBR0.out HX.out.1 (show blockRuled (setsP r L) ⟨params, (r : Int), blocks⟩ b ⟨phis, ins, jump, jon, nx⟩ = true by rw [HB4.out, hj1]; rfl))
                      have HU := Lib.hid (hu ▸ usesOn_any jump wr)
                      clear hj1 hu
                      go_wp2_with fail
                      refine HU.out.mono ?_
                      rintro e w2 ⟨rfl, rfl⟩
                      go_wp2
                      go_roundg (blocks.length - (b + 1))
                      case measure => omega
                      case rel => exact ⟨b + 1, by omega, by go_num, Lib.hid ⟨HBF.out, HN.out⟩⟩
                    · have hu : usesJ jump = true := by
                        rcases HX.out.2.2.2.2 with h | h | h
                        · exact absurd h hj1
                        · subst h; rfl
                        · subst h; rfl
                      have HN := Lib.hid (show blockRuled (setsP r L) ⟨params, (r : Int), blocks⟩ b ⟨phis, ins, jump, jon, nx⟩ = ruleB (setsP r L) (nxs ⟨params, (r : Int), blocks⟩) params jon (b : Int) ins.length by
                        rw [HB4.out, show (jump == 1) = false by simpa using hj1]; rfl)
                      have HJN := Lib.hid (HOK.out.jon hj1)
                      have HU := Lib.hid (hu ▸ usesOn_any jump wr)
                      clear hj1 hu
                      go_wp2_with fail
                      refine HU.out.mono ?_
                      rintro e w2 ⟨rfl, rfl⟩
                      go_wp2_with fail
                      refine (HQ.out _ HBF.out jon (b : Int) (ins.length : Nat) HJN.out ⟨by omega, hbi⟩).mono ?_
                      cases hv : ruleB (setsP r L) (nxs ⟨params, (r : Int), blocks⟩) params jon (b : Int) (ins.length : Nat) with
                      | true =>
                        rintro e w3 ⟨rfl, hb3⟩
                        have HN2 := Lib.hid (And.intro (HBF.out.trans (hb3.mono HBF.out.size)) (blocksRuled_next HBR0.out HX.out.1 (HN.out.trans hv)))
                        clear hb3 hv
                        go_wp2
                        go_roundg (blocks.length - (b + 1))
                        case measure => omega
                        case rel => exact ⟨b + 1, by omega, by go_num, HN2⟩
                      | false =>
                        rintro e w3 ⟨rfl, hb3⟩
                        have HN2 := Lib.hid (HFALSE.out (HN.out.trans hv))
                        have HBE := Lib.hid (HW.out.1.trans ((HBF.out.trans (hb3.mono HBF.out.size)).mono HW.out.1.size))
                        clear hb3 hv
                        go_wp2
                        go_ret
                        exact ⟨ret_bool HN2.out.symm, HBE.out⟩
          · obtain rfl : b = blocks.length := by omega
            have HN := Lib.hid (show singleB ⟨params, (r : Int), blocks⟩ = true by rw [HSB3.out, HK.out.2])
            go_wp2
            go_ret
            exact ⟨ret_bool HN.out.symm, HBW.out⟩

end Go.Proofs.Ytkhnhdgbbjppeaa
