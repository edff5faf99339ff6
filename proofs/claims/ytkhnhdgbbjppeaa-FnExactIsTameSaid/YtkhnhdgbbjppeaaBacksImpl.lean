
/-
  The edges back, the program's walk.
-/
import Derived.Test.YtkhnhdgbbjppeaaBacks
import Derived.Test.YtkhnhdgbbjppeaaTally
namespace Go.Proofs.Ytkhnhdgbbjppeaa
open Go.RowKit

set_option maxRecDepth 100000 in
set_option maxHeartbeats 2000000 in
theorem implBackEdges_any (p r : Int) (ba : Option Addr) (bc : Nat) (g : List (List Int)) (w : World) (hg : Gr w ba g) :
    Calls Try.prog 46 #[.agg #[.int .i64 p, .int .i64 r, .slice ba g.length bc]] w fun e w' => RetMat w (backsP g) (backsP g).length e w' := by
  have hmm := @run_makeMap Try.prog
  have hb0 := below_box w (.int .i64 p) (.int .i64 r) (.slice ba g.length bc)
  have HC := Lib.hid (heap_alloc_new w (.cells #[.int .i64 p, .int .i64 r, .slice ba g.length bc] 51))
  have hlen := hg.len
  go_enter Try.func46, Try.ntmps46
  go_wp2_with fail
  refine (implOrderIn_any p r ba bc g _ (hg.later hb0)).mono ?_
  rintro e w1 ⟨oa, oc, rfl, hown1, hb1⟩
  have hll := orderP_le hg
  have HO := Lib.hid (And.intro hown1 (And.intro (hb0.trans (hb1.mono hb0.size)) ((hb1.block w.heap.size (by simp)).trans HC.out)))
  have HG := Lib.hid (And.intro hg.small (And.intro (fun z (hz : z ∈ orderP g) => orderP_lt hz) (And.intro (fun b x (hb : b ∈ orderP g) (hx : x ∈ g.getD b.toNat []) => orderP_next hb hx) (backsP_by g))))
  have HR := Lib.hid hg
  clear hown1 hb1 hb0 HC hg
  generalize orderP g = L at HO HG hll
  go_wp2_with fail
  have HT0 := Lib.hid (TallyAt.made w1)
  have HB0 := Lib.hid (show Below w1.heap.size w1 (w1.alloc (.map #[] 0)) from (Below.refl _ _).alloc (Nat.le_refl _) _)
  clear hmm
  generalize w1.alloc (.map #[] 0) = wm at HT0 HB0 ⊢
  obtain ⟨M, hM⟩ : ∃ M, M = w1.heap.size := ⟨_, rfl⟩
  rw [← hM] at HT0 ⊢
  have HM := Lib.hid hM
  clear hM
  go_loopg [17] L.length (fun F i wr => ∃ k : Nat, k + F = L.length ∧ i = .int .i64 k ∧ Hid (TallyAt wr M k (plTo L 0 k) ∧ Below w1.heap.size w1 wr))
  case atStart => exact ⟨0, by omega, rfl, Lib.hid ⟨HT0.out, HB0.out⟩⟩
  case round =>
    obtain ⟨k, hk, rfl, HK⟩ := hrel
    clear HT0 HB0
    by_cases hlt : k < L.length
    · obtain ⟨b, off, x, rfl, hx, hc⟩ := ((ints_of_own HO.out.1).toIntsRd.later HK.out.2).place hlt
      have hxb := HG.out.2.1 x (List.mem_of_getElem? hx)
      obtain ⟨w2, hrun, hT2, hg2⟩ := HK.out.1.put (by unfold maxLen; omega) (m := x) (x := (k : Int)) (WalkArith.wf_i64 (by omega)) (WalkArith.wf_i64 (by omega))
      have HN := Lib.hid (And.intro (hT2.same (G' := plTo L 0 (k + 1)) (fun m => (plTo_succ hx).symm)) (HK.out.2.grown hg2 HK.out.2.size (fun j hj => by cases hj; rw [HM.out]; exact Nat.le_refl _)))
      clear hx hxb hT2 hg2
      go_wp2
      go_roundg (gk - 1)
      case measure => omega
      case rel => exact ⟨k + 1, by omega, by go_num, HN⟩
    · obtain rfl : k = L.length := by omega
      have HT := Lib.hid (show TallyAt wr M L.length (fun m => plTo L 0 L.length m) ∧ Below w.heap.size w wr ∧ wr.heap[w.heap.size]? = some (.cells #[.int .i64 p, .int .i64 r, .slice ba g.length bc] 51) from
        ⟨HK.out.1, HO.out.2.1.trans (HK.out.2.mono HO.out.2.1.size), (HK.out.2.block _ (Array.getElem?_eq_some_iff.1 HO.out.2.2).1).trans HO.out.2.2⟩)
      have HL := Lib.hid (And.intro ((ints_of_own HO.out.1).toIntsRd.later HK.out.2) (fun h : oa = none => by subst h; exact own_nil HO.out.1))
      clear HK HO HM
      go_wp2_with fail
      refine (once_any oa oc L wr HL.out.1 HL.out.2 (by omega)).mono ?_
      rintro e w3 ⟨sa, sc, rfl, hown3, hb3⟩
      have hSl := sortU_len L
      have HS := Lib.hid (And.intro (ints_of_own hown3).toIntsRd (And.intro (HT.out.1.later hb3) (And.intro (HT.out.2.1.trans (hb3.mono HT.out.2.1.size)) ((hb3.block _ (Array.getElem?_eq_some_iff.1 HT.out.2.2).1).trans HT.out.2.2))))
      have HM := Lib.hid (fun z (hz : z ∈ sortU L) => sortU_mem.1 hz)
      have HI := Lib.hid (fun (j : Nat) (hj : j < (sortU L).length) (b : Int) (hb : (sortU L)[j]? = some b) (k : Nat) (hk : k ≤ (sortU (g.getD b.toNat [])).length) => backsBy_in HG.out.1 HG.out.2.1 hj hb hk)
      have HP := Lib.hid HG.out.2.2.2
      clear hown3 hb3 HT HL
      generalize sortU L = S at HS HM HI HP hSl ⊢
      go_wp2_with fail
      have HG0 := Lib.hid (GathM.nil (w := w3) (Below.refl w3.heap.size w3))
      go_loopg [7, 29] S.length (fun F o i wq => ∃ j : Nat, j + F = S.length ∧ i = .int .i64 j ∧ ∃ oa on oc, o = .slice oa on oc ∧ Hid (GathM w3 (backsBy g L S j) oa on oc wq))
      case atStart => exact ⟨0, by omega, rfl, _, _, _, rfl, HG0⟩
      case round =>
        obtain ⟨j, hj, rfl, oa2, on2, oc2, rfl, HQ⟩ := hrel
        clear HG0
        by_cases hlt2 : j < S.length
        · obtain ⟨b1, o1, b, rfl, hx, hc⟩ := (HS.out.1.later HQ.out.below).place hlt2
          have hbL := HM.out b (List.mem_of_getElem? hx)
          have hbr := HG.out.2.1 b hbL
          obtain ⟨m, rfl⟩ : ∃ m : Nat, b = (m : Int) := ⟨b.toNat, by omega⟩
          have hmlt : m < g.length := by omega
          have hmi : (m : Int) < (g.length : Int) := hbr.2
          have hcB := (HQ.out.below.block _ (Array.getElem?_eq_some_iff.1 HS.out.2.2.2).1).trans HS.out.2.2.2
          have k2 : wr.cell? ⟨w.heap.size, 2, none⟩ = some (.slice ba g.length bc) := cell_of_row _ _ 2 _ _ _ hcB
          have hbw := HS.out.2.2.1.trans (HQ.out.below.mono HS.out.2.2.1.size)
          obtain ⟨b2, o2, l, na, nc, rfl, hl, hcl, hrd, hnil⟩ := (HR.out.later hbw).place2 hmlt
          have hll2 := HR.out.row hl
          have hgl : g.getD m [] = l := by rw [List.getD_eq_getElem?_getD, hl]; rfl
          have HX := Lib.hid (And.intro hx (And.intro hbL hgl))
          clear hx hbL hl hcB hgl hbw
          go_wp2_with fail
          refine (once_any na nc l wr hrd hnil (by omega)).mono ?_
          rintro e w4 ⟨na2, nc2, rfl, hown4, hb4⟩
          have hsl := sortU_len l
          obtain ⟨B, hB⟩ : ∃ B, B = wr.heap.size := ⟨_, rfl⟩
          rw [← hB] at hown4
          clear hB
          have HQ4 := Lib.hid (And.intro (HQ.out.later hb4) hown4)
          have HI2 := Lib.hid (fun (k : Nat) (hk : k ≤ (sortU l).length) => by have h := HI.out j hlt2 (m : Int) HX.out.1 k (by rw [Int.toNat_natCast, HX.out.2.2]; exact hk); rwa [Int.toNat_natCast, HX.out.2.2] at h)
          have HN2 := Lib.hid (fun x (hx : x ∈ sortU l) => HG.out.2.2.1 (m : Int) x HX.out.2.1 (by rw [Int.toNat_natCast, HX.out.2.2]; exact sortU_mem.1 hx))
          have HE2 := Lib.hid (show backsBy g L S (j + 1) = backsBy g L S j ++ backRow L (m : Int) (sortU l) (sortU l).length by
            rw [backsBy, List.getD_eq_getElem?_getD, HX.out.1, backAll]; simp only [Option.getD_some, Int.toNat_natCast, HX.out.2.2])
          clear hown4 hb4 hrd hnil hcl k2 hc HQ
          generalize sortU l = xs at HQ4 HI2 HN2 HE2 hsl ⊢
          go_wp2_with fail
          go_loopg [7, 41] xs.length (fun F o i wq => ∃ k : Nat, k + F = xs.length ∧ i = .int .i64 k ∧ ∃ oa on oc, o = .slice oa on oc ∧ Hid (GathM w3 (backsBy g L S j ++ backRow L (m : Int) xs k) oa on oc wq ∧ wq.ownsRow B 3 1 (.slice na2 xs.length nc2) xs.length (xs.map (Value.int .i64))))
          case atStart => exact ⟨0, by omega, rfl, _, _, _, rfl, Lib.hid ⟨by simpa [backRow] using HQ4.out.1, HQ4.out.2⟩⟩
          case round =>
            obtain ⟨k, hk, rfl, oa2, on2, oc2, rfl, HQ⟩ := hrel
            clear HQ4
            by_cases hlt3 : k < xs.length
            · obtain ⟨b3, o3, x, rfl, hx, hc⟩ := (ints_of_own HQ.out.2).toIntsRd.place hlt3
              have hxL := HN2.out x (List.mem_of_getElem? hx)
              have hxr := HG.out.2.1 x hxL
              have hT := HS.out.2.1.later HQ.out.1.below
              have hl1 := hT.look (m := x) (WalkArith.wf_i64 (by omega))
              have hl2 := hT.look (m := (m : Int)) (WalkArith.wf_i64 (by omega))
              rw [plOf_zero hxL] at hl1
              rw [plOf_zero HX.out.2.1] at hl2
              have hsm := HI2.out k (by omega)
              rw [HQ.out.1.len] at hsm
              by_cases hop : plOf L x ≤ plOf L (m : Int)
              · have HC := Lib.hid (backRow_yes hx hop)
                generalize plOf L x = px at hl1 hop
                generalize plOf L (m : Int) = pm at hl2 hop
                obtain ⟨rows, hm, hxs, hnd⟩ := HQ.out.1.mat
                have hbw := HQ.out.1.below
                have HM2 := Lib.hid (And.intro hbw (And.intro hm (And.intro hnd (And.intro hxs HQ.out.2))))
                have hsz := hbw.size
                clear hm hxs hnd hbw HQ hx hxL hT
                go_wp2_with (at_builtin; refine app_row rfl (.tmp 52) (.tmp 56) rfl w3.heap.size _ on2 _ rfl ((HM2.out.2.1.alloc _).alloc _).own _ _ _ rfl (pair_row _ _ _) rfl (by omega) (by simp only [World.size_alloc]; omega) ?_; intro a5 c5 w5 hown5 hg5 hlies5)
                have HN := Lib.hid (GathM.push HM2.out.1 HM2.out.2.1 HM2.out.2.2.1 hown5 hg5)
                have HN3 := Lib.hid (GathM.stands HM2.out.2.1 hg5 HM2.out.2.2.2.2)
                clear hown5 hg5 hlies5
                go_roundg (gk - 1)
                case measure => omega
                case rel => exact ⟨k + 1, by omega, by go_num, a5, _, c5, rfl, Lib.hid ⟨by have h1 := HN.out; rw [HM2.out.2.2.2.1, List.append_assoc] at h1; rw [HC.out]; exact h1, HN3.out⟩⟩
              · have HC := Lib.hid (backRow_no hx hop)
                generalize plOf L x = px at hl1 hop
                generalize plOf L (m : Int) = pm at hl2 hop
                clear hx hxL hT
                go_wp2
                go_roundg (gk - 1)
                case measure => omega
                case rel => exact ⟨k + 1, by omega, by go_num, _, _, _, rfl, Lib.hid ⟨by rw [HC.out]; exact HQ.out.1, HQ.out.2⟩⟩
            · obtain rfl : k = xs.length := by omega
              go_wp2
              go_roundg (S.length - (j + 1))
              case measure => omega
              case rel => exact ⟨j + 1, by omega, by go_num, _, _, _, rfl, Lib.hid (by rw [HE2.out]; exact HQ.out.1)⟩
        · obtain rfl : j = S.length := by omega
          go_wp2
          go_ret
          obtain ⟨a5, c5, rows, h1, h2, h3, h4⟩ := HQ.out.ret
          cases h1
          have h5 := HQ.out.len
          rw [HP.out]
          rw [← h5] at h2 ⊢
          exact ret_mat h2 h3 h4 HS.out.2.2.1

end Go.Proofs.Ytkhnhdgbbjppeaa
