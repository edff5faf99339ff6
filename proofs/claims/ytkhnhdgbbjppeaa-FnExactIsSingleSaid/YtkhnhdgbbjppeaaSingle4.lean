
/-
  IsSingle: the reference's test of a code.
-/
import Derived.Test.YtkhnhdgbbjppeaaSingle3
import Derived.Test.YtkhnhdgbbjppeaaOrderIn2
namespace Go.Proofs.Ytkhnhdgbbjppeaa
open Go.RowKit

theorem rowsOnce_next {P : List (List Pl)} {params : Int} {r : Nat} {ps : List Pl} (h : rowsOnce P params r = true) (hp : P[r]? = some ps) (h1 : ¬ 1 < ps.length) (h2 : ¬ ((r : Int) < params ∧ 0 < ps.length)) : rowsOnce P params (r + 1) = true := by
  have hg : P.getD r [] = ps := by rw [List.getD_eq_getElem?_getD, hp]; rfl
  have h3 : (decide ((r : Int) < params) && decide (0 < ps.length)) = false := by rw [← Bool.decide_and]; exact decide_eq_false h2
  rw [rowsOnce, h, hg, decide_eq_false h1, h3]; rfl
theorem rowsOnce_stop {P : List (List Pl)} {params : Int} {r : Nat} {ps : List Pl} (hp : P[r]? = some ps) (h : 1 < ps.length ∨ ((r : Int) < params ∧ 0 < ps.length)) : ∀ {n : Nat}, r < n → rowsOnce P params n = false
  | 0, hn => by omega
  | n + 1, hn => by
    rw [rowsOnce]
    by_cases e : r = n
    · subst e
      have hg : P.getD r [] = ps := by rw [List.getD_eq_getElem?_getD, hp]; rfl
      rw [hg]
      rcases h with h | ⟨h1, h2⟩
      · simp [h]
      · simp [h1, h2]
    · rw [rowsOnce_stop hp h (by omega), Bool.false_and]
theorem blocksRuled_next {P : List (List Pl)} {c : CodeD} {b : Nat} {x : BlockD} (h : blocksRuled P c b = true) (hx : c.blocks[b]? = some x) (hr : blockRuled P c b x = true) : blocksRuled P c (b + 1) = true := by
  rw [blocksRuled, h, hx]; simp [hr]
theorem blocksRuled_stop {P : List (List Pl)} {c : CodeD} {b : Nat} {x : BlockD} (hx : c.blocks[b]? = some x) (hr : blockRuled P c b x = false) : ∀ {m : Nat}, b < m → blocksRuled P c m = false
  | 0, h => by omega
  | m + 1, h => by
    rw [blocksRuled]
    by_cases e : b = m
    · subst e; rw [hx]; simp [hr]
    · rw [blocksRuled_stop hx hr (by omega), Bool.false_and]

set_option maxRecDepth 100000 in
set_option maxHeartbeats 2000000 in
theorem l13Is_any (us : List CodeD) (k : Nat) (params regs : Int) (blocks : List BlockD) (ba : Option Addr) (bc : Nat) (hc : codeB us k ⟨params, regs, blocks⟩ = true) (w : World) (hR : CodeR w [.int .i64 params, .int .i64 regs, .slice ba blocks.length bc] ⟨params, regs, blocks⟩) (hsz : szCodeD ⟨params, regs, blocks⟩ ≤ 1048576)
    (hg : Gr w ba (nxs ⟨params, regs, blocks⟩)) :
    Calls Try.prog 76 #[.agg #[.int .i64 params, .int .i64 regs, .slice ba blocks.length bc]] w fun e w' => e = .returned (.bool (singleB ⟨params, regs, blocks⟩)) ∧ Below w.heap.size w w' := by
  have hgl : (nxs ⟨params, regs, blocks⟩).length = blocks.length := nxs_len ⟨params, regs, blocks⟩
  have hF := code_fits hc
  have hbl : blocks.length ≤ 1048576 := by rw [← hgl]; exact hg.len
  have hb0 := below_box w (.int .i64 params) (.int .i64 regs) (.slice ba blocks.length bc)
  have hrow := heap_alloc_new w (.cells #[.int .i64 params, .int .i64 regs, .slice ba blocks.length bc] 51)
  have k0 := cell_of_row _ _ 0 _ _ _ hrow
  have k1 := cell_of_row _ _ 1 _ _ _ hrow
  have k2 := cell_of_row _ _ 2 _ _ _ hrow
  simp only [List.getElem?_toArray, List.getElem?_cons_zero, List.getElem?_cons_succ] at k0 k1 k2
  have HC := Lib.hid (And.intro hb0 (And.intro hrow hR))
  clear hrow hR hb0
  go_enter Try.func76, Try.ntmps76
  go_upto_region 1 with fail
  generalize w.alloc (.cells #[.int .i64 params, .int .i64 regs, .slice ba blocks.length bc] 51) = W1 at HC k0 k1 k2 ⊢
  have HO := Lib.hid (fun q : Nat => show Calls Try.prog 82 #[.agg #[.int .i64 params, .int .i64 regs, .slice ba blocks.length bc]] (W1.drewN q) (fun e w' => RetInts (W1.drewN q) (leftOf (nxs ⟨params, regs, blocks⟩)).reverse (leftOf (nxs ⟨params, regs, blocks⟩)).reverse.length e w') from by
    have h := l10Order_any (nxs ⟨params, regs, blocks⟩) hF params regs ba bc (W1.drewN q) (hg.later (below_drewN HC.out.1 q))
    rwa [hgl] at h)
  have hll := leftOf_len (nxs ⟨params, regs, blocks⟩)
  rw [hgl] at hll
  go_cut [13] (fun v wx => v = .bool (!decide ((leftOf (nxs ⟨params, regs, blocks⟩)).length = blocks.length)) ∧ Hid (Below W1.heap.size W1 wx))
  case first =>
    rw [← List.length_reverse] at hll
    generalize hR : (leftOf (nxs ⟨params, regs, blocks⟩)).reverse = R at HO hll
    have HL := Lib.hid (show (leftOf (nxs ⟨params, regs, blocks⟩)).length = R.length by rw [← hR, List.length_reverse])
    clear hR
    go_region_law (go_simp; go_at_call 82; refine (HO.out _).mono ?_; rintro e w2 ⟨oa, oc, rfl, hown, hb2⟩; (have hb12 : Below W1.heap.size W1 w2 := ⟨hb2.os, hb2.tape, hb2.output, hb2.size, hb2.block⟩); (have k0' := cell_later hb12 k0); (have k1' := cell_later hb12 k1); (have k2' := cell_later hb12 k2))
    all_goals
      have HB := Lib.hid hb12
      clear hb12 k0' k1' k2' hown hb2
      go_wp2_with fail
      go_meet
      exact ⟨by
                rw [HL.out]
                by_cases h : R.length = blocks.length
                · have h2 : ((R.length : Int) != (blocks.length : Int)) = false := by simp [h]
                  rw [h2]; simp [h]
                · have h2 : ((R.length : Int) != (blocks.length : Int)) = true := by simp; omega
                  rw [h2]; simp [h], HB⟩
  case rest =>
  obtain ⟨rfl, HB⟩ := hcut
  have HSB := Lib.hid (show singleB ⟨params, regs, blocks⟩ = (decide ((leftOf (nxs ⟨params, regs, blocks⟩)).length = blocks.length) && (rowsOnce (codeSets ⟨params, regs, blocks⟩) params regs.toNat && blocksRuled (codeSets ⟨params, regs, blocks⟩) ⟨params, regs, blocks⟩ blocks.length)) by
    rw [singleB, hgl])
  clear k0 k1 k2 HO
  cases hfull : decide ((leftOf (nxs ⟨params, regs, blocks⟩)).length = blocks.length) with
  | false =>
    have HN := Lib.hid (show singleB ⟨params, regs, blocks⟩ = false by rw [HSB.out, hfull]; rfl)
    have HBE := Lib.hid (HC.out.1.trans (HB.out.mono HC.out.1.size))
    clear hfull
    go_wp2
    go_ret
    exact ⟨ret_bool HN.out.symm, HBE.out⟩
  | true =>
    have hlim := (code_lims hc).1
    have hlim : 0 ≤ regs ∧ regs ≤ 300 := hlim
    obtain ⟨n, rfl⟩ : ∃ n : Nat, regs = (n : Int) := ⟨regs.toNat, by omega⟩
    have hBc := HC.out.1.trans (HB.out.mono HC.out.1.size)
    have hblk := (HB.out.block _ (Array.getElem?_eq_some_iff.1 HC.out.2.1).1).trans HC.out.2.1
    have k0 := cell_of_row _ _ 0 _ _ _ hblk
    have k1 := cell_of_row _ _ 1 _ _ _ hblk
    have k2 := cell_of_row _ _ 2 _ _ _ hblk
    simp only [List.getElem?_toArray, List.getElem?_cons_zero, List.getElem?_cons_succ] at k0 k1 k2
    have HST := Lib.hid (l13Sets_any _ ⟨params, (n : Int), blocks⟩ wc n (codeR_lasts _ _ _ _ hBc HC.out.2.2) hsz rfl (by omega) (setsOk_of hc rfl))
    have HB1 := Lib.hid (And.intro hBc hblk)
    have hcs : codeSets ⟨params, (n : Int), blocks⟩ = setsP n (evBl blocks blocks.length) := rfl
    have HSB2 := Lib.hid (show singleB ⟨params, (n : Int), blocks⟩ = (rowsOnce (setsP n (evBl blocks blocks.length)) params n && blocksRuled (setsP n (evBl blocks blocks.length)) ⟨params, (n : Int), blocks⟩ blocks.length) by
      rw [HSB.out, hfull, Bool.true_and, hcs, Int.toNat_natCast])
    have hLl := evBl_small (bs := blocks) hsz
    have HPI := Lib.hid (plIn_of n blocks)
    clear hfull hBc hblk hcs
    go_wp2_with fail
    refine HST.out.mono ?_
    rintro e w2 ⟨gs, rfl, hS2⟩
    generalize hLL : evBl blocks blocks.length = L at HSB2 hLl HPI hS2 ⊢
    have hbw2 := hS2.below
    have hblk2 := (hbw2.block _ (Array.getElem?_eq_some_iff.1 HB1.out.2).1).trans HB1.out.2
    have m0 := cell_of_row _ _ 0 _ _ _ hblk2
    have m1 := cell_of_row _ _ 1 _ _ _ hblk2
    have m2 := cell_of_row _ _ 2 _ _ _ hblk2
    simp only [List.getElem?_toArray, List.getElem?_cons_zero, List.getElem?_cons_succ] at m0 m1 m2
    have H2 := Lib.hid (And.intro (HB1.out.1.trans (hbw2.mono HB1.out.1.size)) (And.intro hblk2 hS2))
    have HL := Lib.hid hLL
    clear hbw2 hblk2 hS2 k0 k1 k2 HST hLL HSB
    have hn300 : n ≤ 300 := by omega
    go_wp2_with fail
    go_loopg [4] n (fun F i wr => ∃ r : Nat, r + F = n ∧ i = .int .i64 r ∧ wr = w2 ∧ Hid (rowsOnce (setsP n L) params r = true))
    case atStart => exact ⟨0, by omega, rfl, rfl, Lib.hid rfl⟩
    case round =>
      obtain ⟨r, hr, rfl, rfl, HK⟩ := hrel
      by_cases hlt : r < n
      · obtain ⟨ra, rc, ps, hps, hpl, hrow, _⟩ := H2.out.2.2.row hlt
        have hri : (r : Int) < (n : Int) := by omega
        have hpl2 : ps.length ≤ 1048576 := by omega
        by_cases h1 : 1 < ps.length
        · have h1i : (1 : Int) < (ps.length : Int) := by omega
          have HN := Lib.hid (show singleB ⟨params, (n : Int), blocks⟩ = false by
            rw [HSB2.out, rowsOnce_stop hps (.inl h1) hlt]; rfl)
          clear hps
          go_wp2
          go_ret
          exact ⟨ret_bool HN.out.symm, H2.out.1⟩
        · have h1i : ¬ (1 : Int) < (ps.length : Int) := by omega
          by_cases hrp : (r : Int) < params
          · by_cases hz : 0 < ps.length
            · have hzi : (0 : Int) < (ps.length : Int) := by omega
              have HN := Lib.hid (show singleB ⟨params, (n : Int), blocks⟩ = false by
                rw [HSB2.out, rowsOnce_stop hps (.inr ⟨hrp, hz⟩) hlt]; rfl)
              clear hps
              go_wp2
              go_ret
              exact ⟨ret_bool HN.out.symm, H2.out.1⟩
            · have hzi : ¬ (0 : Int) < (ps.length : Int) := by omega
              have HN := Lib.hid (rowsOnce_next HK.out hps h1 (fun h => hz h.2))
              clear hps
              go_wp2
              go_roundg (gk - 1)
              case measure => omega
              case rel => exact ⟨r + 1, by omega, by go_num, rfl, HN⟩
          · have HN := Lib.hid (rowsOnce_next HK.out hps h1 (fun h => hrp h.1))
            clear hps
            go_wp2
            go_roundg (gk - 1)
            case measure => omega
            case rel => exact ⟨r + 1, by omega, by go_num, rfl, HN⟩
      · obtain rfl : r = n := by omega
        have HSB3 := Lib.hid (show singleB ⟨params, (r : Int), blocks⟩ = blocksRuled (setsP r L) ⟨params, (r : Int), blocks⟩ blocks.length by
          rw [HSB2.out, HK.out, Bool.true_and])
        have HDO := Lib.hid (show Calls Try.prog 101 #[.agg #[.int .i64 params, .int .i64 (r : Int), .slice ba blocks.length bc]] wr (fun e w' => ∃ a c, e = .returned (.slice a blocks.length c) ∧ BMatOwn w' wr.heap.size a blocks.length c (domMat (nxs ⟨params, (r : Int), blocks⟩)) ∧ Below wr.heap.size wr w') from by
          have h := l11Doms_any (nxs ⟨params, (r : Int), blocks⟩) hF params (r : Int) ba bc wr (hg.later H2.out.1)
          rwa [hgl] at h)
        go_wp2_with fail
        refine HDO.out.mono ?_
        rintro e w3 ⟨ma, mc, rfl, hM, hb3⟩
        have H3 := Lib.hid (And.intro (H2.out.1.trans (hb3.mono H2.out.1.size)) (And.intro ((hb3.block _ (Array.getElem?_eq_some_iff.1 H2.out.2.1).1).trans H2.out.2.1) (And.intro (H2.out.2.2.later hb3) hM.rd)))
        clear hb3 hM m0 m1 m2
        have m0 := cell_of_row _ _ 0 _ _ _ H3.out.2.1
        have m1 := cell_of_row _ _ 1 _ _ _ H3.out.2.1
        have m2 := cell_of_row _ _ 2 _ _ _ H3.out.2.1
        simp only [List.getElem?_toArray, List.getElem?_cons_zero, List.getElem?_cons_succ] at m0 m1 m2
        go_wp2_with fail
        clear m0 m1 m2
        go_loopg [6] blocks.length (fun F i wq => ∃ b : Nat, b + F = blocks.length ∧ i = .int .i64 b ∧ Hid (blocksRuled (setsP r L) ⟨params, (r : Int), blocks⟩ b = true ∧ Below w3.heap.size w3 wq))
        case atStart => exact ⟨0, by omega, rfl, Lib.hid ⟨rfl, Below.refl _ _⟩⟩
        case round =>
          obtain ⟨b, hb, rfl, HQ⟩ := hrel
          have hbb := (HQ.out.2.block _ (Array.getElem?_eq_some_iff.1 H3.out.2.1).1).trans H3.out.2.1
          have m0 := cell_of_row _ _ 0 _ _ _ hbb
          have m1 := cell_of_row _ _ 1 _ _ _ hbb
          have m2 := cell_of_row _ _ 2 _ _ _ hbb
          simp only [List.getElem?_toArray, List.getElem?_cons_zero, List.getElem?_cons_succ] at m0 m1 m2
          have HBW := Lib.hid (H3.out.1.trans (HQ.out.2.mono H3.out.1.size))
          clear hbb
          by_cases hblt : b < blocks.length
          · obtain ⟨x, hx⟩ : ∃ x, blocks[b]? = some x := ⟨_, List.getElem?_eq_getElem hblt⟩
            have hbi : (b : Int) < (blocks.length : Int) := by omega
            have hrdq : SliceRd 5 BlockR wr ba blocks.length blocks := by
              obtain ⟨_, _, he, _, h2⟩ := codeR_lasts _ _ _ _ HBW.out HC.out.2.2
              simp only [List.cons.injEq, Value.slice.injEq, and_true, true_and] at he
              obtain ⟨rfl, rfl⟩ := he
              exact h2
            have HBL := Lib.hid (l13Block_any params (r : Int) blocks ba bc gs r L _ ma mc b x hx wr hrdq hsz (H3.out.2.2.1.later HQ.out.2) (H3.out.2.2.2.later bRowR_lasts HQ.out.2) HPI.out hLl (blkOk_of hc hx rfl) (hg.later HBW.out))
            have HX := Lib.hid hx
            clear hrdq hx
            go_wp2_with fail
            refine HBL.out.mono ?_
            cases hv : blockRuled (setsP r L) ⟨params, (r : Int), blocks⟩ b x with
            | true =>
              rintro e w4 ⟨rfl, hb4⟩
              have HN := Lib.hid (And.intro (blocksRuled_next HQ.out.1 HX.out hv) (HQ.out.2.trans (hb4.mono HQ.out.2.size)))
              clear hb4 hv
              go_wp2
              go_roundg (gk - 1)
              case measure => omega
              case rel => exact ⟨b + 1, by omega, by go_num, HN⟩
            | false =>
              rintro e w4 ⟨rfl, hb4⟩
              have HN := Lib.hid (show singleB ⟨params, (r : Int), blocks⟩ = false by
                rw [HSB3.out, blocksRuled_stop HX.out hv hblt])
              have HBE := Lib.hid (HBW.out.trans (hb4.mono HBW.out.size))
              clear hb4 hv
              go_wp2
              go_ret
              exact ⟨ret_bool HN.out.symm, HBE.out⟩
          · obtain rfl : b = blocks.length := by omega
            have HN := Lib.hid (show singleB ⟨params, (r : Int), blocks⟩ = true by rw [HSB3.out, HQ.out.1])
            go_wp2
            go_ret
            exact ⟨ret_bool HN.out.symm, HBW.out⟩

end Go.Proofs.Ytkhnhdgbbjppeaa
