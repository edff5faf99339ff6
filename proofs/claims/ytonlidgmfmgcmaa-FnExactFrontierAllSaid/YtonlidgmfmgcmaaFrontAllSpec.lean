
/-
  FrontierAll, the reference's.
-/
import Derived.Test.YtonlidgmfmgcmaaFrontAll
import Derived.Test.YtonlidgmfmgcmaaFront3
import Derived.Test.YtonlidgmfmgcmaaLoopSpec
import Derived.Deep.DeepCutAuto
namespace Go.Proofs.Ytonlidgmfmgcmaa
open Go.RowKit

theorem LP.ins {w : World} {C : Array Value} {oa a' : Option Addr} {oc c' : Nat} {out ys : List Int} {gw ow cw : Nat} {work : List Int} {B : Nat} {pa : Option Addr} {pc : Nat} {ps : List Int} {wr w' : World} (h : LP w C oa oc out gw ow cw work B pa pc ps wr) (hb : Below wr.heap.size wr w')
    (hr : (ys = out ∧ a' = oa ∧ c' = oc ∧ w' = wr) ∨ w'.ownsRow wr.heap.size 3 1 (.slice a' ys.length c') ys.length (ys.map (Value.int .i64))) : LP w C a' c' ys gw ow cw work B pa pc ps w' :=
  ⟨h.ls.ins hb hr, ownsRow_below h.row hb, h.ne⟩

set_option maxRecDepth 100000 in
set_option maxHeartbeats 4000000 in
theorem l11Frontiers_any (p r : Int) (ba : Option Addr) (bc : Nat) (g : List (List Int)) (hf : Fits g) (ma : Option Addr) (mc : Nat) (la : Option Addr) (lc : Nat) (list : List Int) (w : World) (hg : Gr w ba g) (hM : BMat w ma g.length (domMat g)) (hin : IntsRd w la list.length list) (hnil : la = none → lc = 0) (hll : list.length ≤ 1048576) :
    Calls Try.prog 16 #[.agg #[.int .i64 p, .int .i64 r, .slice ba g.length bc], .slice ma g.length mc, .slice la list.length lc] w fun e w' => RetInts w (fallTo g (list.length + g.length + 1) [] list) (fallTo g (list.length + g.length + 1) [] list).length e w' := by
  have hlen := hg.len
  have hpos := hf.pos
  have hb3 : Below w.heap.size w (((w.alloc (.cells #[.int .i64 p, .int .i64 r, .slice ba g.length bc] 30)).alloc (.cells #[] 3)).alloc (.cells #[] 3)) := (((Below.refl _ _).alloc (Nat.le_refl _) _).alloc (by simp) _).alloc (by simp; omega) _
  have HC := Lib.hid (show LS w #[.int .i64 p, .int .i64 r, .slice ba g.length bc] (some ⟨w.heap.size + 1, 0, none⟩) 0 [] (w.heap.size + 2) 0 0 [] (((w.alloc (.cells #[.int .i64 p, .int .i64 r, .slice ba g.length bc] 30)).alloc (.cells #[] 3)).alloc (.cells #[] 3)) from by
    have h1 := own_empty (w.alloc (.cells #[.int .i64 p, .int .i64 r, .slice ba g.length bc] 30)) w.heap.size 3 1 (by simp)
    rw [World.size_alloc] at h1
    have h2 := own_empty ((w.alloc (.cells #[.int .i64 p, .int .i64 r, .slice ba g.length bc] 30)).alloc (.cells #[] 3)) w.heap.size 3 1 (by simp; omega)
    rw [World.size_alloc, World.size_alloc] at h2
    refine ⟨hb3, ?_, h1.alloc _, QueAt.of_own (xs := []) h2, fun k hk => ?_⟩
    · rw [heap_alloc_old _ _ (by simp; omega)]
      exact heap_alloc2_old w _ _
    · simp [Value.ownBlock] at hk; omega)
  have HL := Lib.hid (And.intro (hin.later hb3) hnil)
  have HM := Lib.hid (And.intro hM hg)
  obtain ⟨V, hV⟩ : ∃ V, V = fallTo g (list.length + g.length + 1) [] list := ⟨_, rfl⟩
  rw [← hV]
  have HV := Lib.hid hV.symm
  clear hV hM hg hin hnil hb3
  have hsz0 : w.heap.size ≤ (((w.alloc (.cells #[.int .i64 p, .int .i64 r, .slice ba g.length bc] 30)).alloc (.cells #[] 3)).alloc (.cells #[] 3)).heap.size := HC.out.below.size
  go_enter Try.func16, Try.ntmps16
  go_wp2_with (at_builtin; refine app_que rfl (.tmp 13) (.tmp 14) rfl rfl HC.out.que la _ lc list rfl rfl HL.out.1.row HL.out.2 (by omega) hsz0 ?_; intro g5 o5 c5 w5 hq5 hg5 hgg5)
  have HS := Lib.hid (HC.out.push rfl hq5 hg5 hgg5)
  rw [List.nil_append] at HS
  clear hq5 hg5 hgg5 HC HL hsz0
  obtain ⟨Z, hZ⟩ : ∃ Z, Z = list.length + g.length := ⟨_, rfl⟩
  go_loopg [7, 8] (list.length + g.length) (fun F s7 s8 wr => ∃ out work : List Int, F = work.length + (g.length - out.length) ∧ F ≤ Z ∧ ∃ oa oc gw ow cw, s7 = .slice oa out.length oc ∧ s8 = .slice (some ⟨gw, ow, none⟩) work.length cw ∧
    Hid (LS w #[.int .i64 p, .int .i64 r, .slice ba g.length bc] oa oc out gw ow cw work wr ∧ FI g.length out ∧ fallTo g (F + 1) out work = V))
  case atStart => exact ⟨[], list, by simp, by omega, _, _, g5, o5, c5, rfl, rfl, Lib.hid ⟨HS.out, FI.nil _, HV.out⟩⟩
  case round =>
    obtain ⟨out, work, hF, hFZ, oa, oc, gw, ow, cw, rfl, rfl, HK⟩ := hrel
    clear HS
    have hol := HK.out.2.1.len
    cases work with
    | nil =>
      have HD := Lib.hid (show out = V by have := HK.out.2.2; rwa [fallTo_nil] at this)
      go_wp2
      go_ret
      rw [← HD.out]
      exact ⟨_, _, rfl, HK.out.1.res, HK.out.1.below⟩
    | cons b rest =>
      have hq0 := HK.out.1.que.rd.cell (i := 0) (x := b) rfl
      rw [Nat.add_zero] at hq0
      have hcw := HK.out.1.que.le
      have HT := Lib.hid HK.out.1.tail
      have hlc : 1 ≤ cw := by simp at hcw; omega
      have hrl : (b :: rest).length = rest.length + 1 := rfl
      rw [hrl] at hcw hF ⊢
      obtain ⟨ow2, hw2⟩ : ∃ o, o = (if cw = 1 then ow else ow + 1) := ⟨_, rfl⟩
      rw [← hw2] at HT
      have hcpos : (0 : Int) < (rest.length + 1 : Nat) := by omega
      go_upto_region 5 with fail
      go_cut [8] (fun s8 wx => s8 = .slice (some ⟨gw, ow2, none⟩) rest.length (cw - 1) ∧ Hid (wx = wr))
      case first =>
        by_cases hc1 : cw = 1
        · subst hc1
          rw [if_pos rfl] at hw2
          have HR0 := Lib.hid (show rest.length = 0 by omega)
          go_wp2_with fail
          go_meet
          exact ⟨by rw [hw2, HR0.out], Lib.hid rfl⟩
        · have hc2 : ¬ 1 = cw := fun e => hc1 e.symm
          rw [if_neg hc1] at hw2
          go_wp2_with fail
          go_meet
          exact ⟨by rw [hw2], Lib.hid rfl⟩
      case rest =>
      obtain ⟨rfl, HW⟩ := hcut
      obtain rfl := HW.out
      clear HW hw2 hq0
      go_wp2_with fail
      refine (l1In_any b 0 ((g.length : Int) - 1) _).mono ?_
      by_cases hbr : 0 ≤ b ∧ b < (g.length : Int)
      · obtain ⟨y, rfl⟩ : ∃ y : Nat, b = (y : Int) := ⟨b.toNat, by omega⟩
        have hyl : y < g.length := by omega
        rw [decide_eq_true (show (0 : Int) ≤ (y : Int) by omega), decide_eq_true (show (y : Int) ≤ (g.length : Int) - 1 by omega)]
        rintro e w2 ⟨rfl, rfl⟩
        have k0 := cell_of_row _ _ 0 _ _ _ HT.out.code
        have k1 := cell_of_row _ _ 1 _ _ _ HT.out.code
        have k2 := cell_of_row _ _ 2 _ _ _ HT.out.code
        simp only [List.getElem?_toArray, List.getElem?_cons_zero, List.getElem?_cons_succ] at k0 k1 k2
        have HST := Lib.hid (show stepF g (y : Int) out rest = (filtTo (frontB g y) g.length).foldl addF (out, rest) by rw [stepF, frontP_in hf hyl])
        have HFR := Lib.hid (fun x (hx : x ∈ filtTo (frontB g y) g.length) => frontP_rng (g := g) (b := (y : Int)) (x := x) (by rw [frontP_in hf hyl]; exact hx))
        have hnl := filtTo_len (frontB g y) g.length
        go_wp2_with fail
        refine (l11FrontierO_any p r ba bc g ma mc y hyl _ (HM.out.2.later HT.out.below) (HM.out.1.later bRowR_lasts HT.out.below)).mono ?_
        rintro e w3 ⟨na, nc, rfl, hown3, hb3⟩
        generalize filtTo (frontB g y) g.length = next at HST HFR hnl hown3 ⊢
        have HP := Lib.hid (show LP w #[.int .i64 p, .int .i64 r, .slice ba g.length bc] oa oc out gw ow2 (cw - 1) rest wc.heap.size na nc next w3 from
          ⟨HT.out.later hb3, hown3, fun k hk e => by have h1 := (hown3.lt k hk).1; have := HT.out.lt; omega⟩)
        obtain ⟨B, hB⟩ : ∃ B, B = wc.heap.size := ⟨_, rfl⟩
        rw [← hB] at HP
        have HI := Lib.hid HK.out.2
        clear hown3 hb3 k0 k1 k2 HT HK hB
        go_wp2_with fail
        go_loopg [7, 8, 11] next.length (fun F s7 s8 i wq => ∃ k : Nat, k + F = next.length ∧ i = .int .i64 k ∧ ∃ oa oc gw ow cw, s7 = .slice oa ((next.take k).foldl addF (out, rest)).1.length oc ∧ s8 = .slice (some ⟨gw, ow, none⟩) ((next.take k).foldl addF (out, rest)).2.length cw ∧
          Hid (LP w #[.int .i64 p, .int .i64 r, .slice ba g.length bc] oa oc ((next.take k).foldl addF (out, rest)).1 gw ow cw ((next.take k).foldl addF (out, rest)).2 B na nc next wq))
        case atStart => exact ⟨0, by omega, rfl, oa, oc, gw, ow2, cw - 1, rfl, rfl, HP⟩
        case round =>
          obtain ⟨k, hk, rfl, oa2, oc2, gw2, ow3, cw2, rfl, rfl, HK⟩ := hrel
          clear HP
          have hAt := HI.out.1.at (work := rest) HFR.out k
          have hsl := hAt.1.len
          have hsm := hAt.2
          have HA := Lib.hid hAt.1
          clear hAt
          by_cases hlt : k < next.length
          · obtain ⟨nb, no, x, rfl, hx, hcx⟩ := (ints_of_own HK.out.row).toIntsRd.place hlt
            have HX := Lib.hid (And.intro (fold_next (s := (out, rest)) hx) (HFR.out x (List.mem_of_getElem? hx)))
            have hki : (k : Int) < (next.length : Int) := by omega
            clear hx
            generalize (next.take k).foldl addF (out, rest) = S at HX HK HA hsl hsm ⊢
            obtain ⟨So, Sw⟩ := S
            have HX := Lib.hid (show (next.take (k + 1)).foldl addF (out, rest) = addF (So, Sw) x ∧ (0 ≤ x ∧ x < (g.length : Int)) from HX.out)
            have HK := Lib.hid (show LP w #[.int .i64 p, .int .i64 r, .slice ba g.length bc] oa2 oc2 So gw2 ow3 cw2 Sw B (some ⟨nb, no, none⟩) nc next wr from HK.out)
            have hsl : So.length ≤ g.length := hsl
            have hsm : Sw.length + (g.length - So.length) = rest.length + (g.length - out.length) := hsm
            have HA := Lib.hid (show FI g.length So from HA.out)
            show Code.wp _ _ _ _ _
            dsimp only
            go_wp2_with fail
            refine (l10At_any oa2 So.length oc2 So x _ (ints_of_own HK.out.ls.res).toIntsRd (by omega)).mono ?_
            rintro e w4 ⟨rfl, rfl⟩
            have HIN := Lib.hid (idxInt_nonneg (x := x) So)
            generalize hix : idxInt x So = ix at HIN ⊢
            clear hix
            by_cases hxo : x ∈ So
            · have hi0 : ¬ ix < 0 := by have := HIN.out; rw [decide_eq_true hxo] at this; have := of_decide_eq_true this; omega
              have HN := Lib.hid (show (next.take (k + 1)).foldl addF (out, rest) = (So, Sw) by rw [HX.out.1, addF, if_pos hxo])
              clear HIN hxo
              go_wp2
              go_roundg (gk - 1)
              case measure => omega
              case rel => exact ⟨k + 1, by omega, by go_num, oa2, oc2, gw2, ow3, cw2, by rw [HN.out], by rw [HN.out], Lib.hid (by rw [HN.out]; exact HK.out)⟩
            · have hi0 : ix < 0 := by have := HIN.out; rw [decide_eq_false hxo] at this; have := of_decide_eq_false this; omega
              have HN := Lib.hid (show (next.take (k + 1)).foldl addF (out, rest) = (ins So x, Sw ++ [x]) by rw [HX.out.1, addF, if_neg hxo])
              clear HIN hxo
              go_wp2_with fail
              refine (insertO_any oa2 So.length oc2 So x _ (ints_of_own HK.out.ls.res) (by omega)).mono ?_
              rintro e w5 ⟨a2, c2', rfl, hro, hb5⟩
              have HK2 := Lib.hid (HK.out.ins hb5 hro)
              have hcx' := cell_later hb5 hcx
              clear hro hb5 hcx HK
              generalize ins So x = So2 at HN HK2 ⊢
              have HKA := Lib.hid (HK2.out.later ((Below.refl w5.heap.size w5).alloc (Nat.le_refl _) (.cells #[.int .i64 x] 3)))
              have hsz := HK2.out.ls.below.size
              go_wp2_with (at_builtin; refine app_que rfl (.tmp 53) (.tmp 58) rfl rfl HKA.out.ls.que _ 1 _ [x] rfl rfl (rowAt_one _ _ _) (by rintro ⟨⟩) (by omega) (by simp; omega) ?_; intro g6 o6 c6 w6 hq6 hg6 hgg6)
              have HN2 := Lib.hid (HKA.out.push (m := 1) rfl hq6 hg6 hgg6)
              clear hq6 hg6 hgg6
              go_roundg (gk - 1)
              case measure => omega
              case rel => exact ⟨k + 1, by omega, by go_num, a2, c2', g6, o6, c6, by rw [HN.out], by rw [HN.out, List.length_append]; rfl, Lib.hid (by rw [HN.out]; exact HN2.out)⟩
          · obtain rfl : k = next.length := by omega
            have HE := Lib.hid (show stepF g (y : Int) out rest = (next.take next.length).foldl addF (out, rest) by rw [HST.out, List.take_length])
            generalize (next.take next.length).foldl addF (out, rest) = S at HE HK HA hsl hsm ⊢
            have HE2 := Lib.hid (fun (F : Nat) (h : fallTo g (F + 1) out ((y : Int) :: rest) = V) => fallTo_step h HE.out)
            go_wp2
            go_roundg (S.2.length + (g.length - S.1.length))
            case measure => omega
            case rel => exact ⟨S.1, S.2, rfl, by omega, oa2, oc2, gw2, ow3, cw2, rfl, rfl, Lib.hid ⟨HK.out.ls, HA.out, HE2.out _ (by have h := HI.out.2; rw [hF] at h; rw [hsm, show rest.length + (g.length - out.length) + 1 = rest.length + 1 + (g.length - out.length) by omega]; exact h)⟩⟩
      · have HF2 := Lib.hid (show stepF g b out rest = (out, rest) by rw [stepF, frontP_out hbr]; rfl)
        have hd : (decide ((0 : Int) ≤ b) && decide (b ≤ (g.length : Int) - 1)) = false := by
          rw [← Bool.decide_and]; exact decide_eq_false (fun h => hbr ⟨h.1, by omega⟩)
        rw [hd]
        clear hd hbr
        rintro e w2 ⟨rfl, rfl⟩
        have HN := Lib.hid (fun (F : Nat) (h : fallTo g (F + 1) out (b :: rest) = V) => fallTo_step h HF2.out)
        go_wp2
        go_roundg (rest.length + (g.length - out.length))
        case measure => omega
        case rel => exact ⟨out, rest, rfl, by omega, oa, oc, gw, ow2, cw - 1, rfl, rfl, Lib.hid ⟨HT.out, HK.out.2.1, HN.out _ (by have h := HK.out.2.2; rw [hF] at h; rw [show rest.length + (g.length - out.length) + 1 = rest.length + 1 + (g.length - out.length) by omega]; exact h)⟩⟩

set_option maxRecDepth 100000 in
set_option maxHeartbeats 1000000 in
theorem specFrontierAll_any (p r : Int) (ba : Option Addr) (bc : Nat) (g : List (List Int)) (la : Option Addr) (lc : Nat) (list : List Int) (w : World) (hg : Gr w ba g) (hin : IntsRd w la list.length list) (hnil : la = none → lc = 0) (hll : list.length ≤ 1048576) :
    Calls Try.prog 5 #[.agg #[.int .i64 p, .int .i64 r, .slice ba g.length bc], .slice la list.length lc] w fun e w' => RetInts w (fallP g list) (fallP g list).length e w' := by
  have hb0 := below_box w (.int .i64 p) (.int .i64 r) (.slice ba g.length bc)
  have HC := Lib.hid (heap_alloc_new w (.cells #[.int .i64 p, .int .i64 r, .slice ba g.length bc] 30))
  have hlen := hg.len
  go_enter Try.func5, Try.ntmps5
  go_wp2_with fail
  refine (l10Fits_any p r ba bc g _ (hg.later hb0)).mono ?_
  rintro e w1 ⟨rfl, hb1⟩
  have hb01 := hb0.trans (hb1.mono hb0.size)
  have hC1 := (hb1.block w.heap.size (by simp)).trans HC.out
  have hk0 : w1.cell? ⟨w.heap.size, 0, none⟩ = some (.int .i64 p) := cell_of_row _ _ 0 _ _ _ hC1
  have hk1 : w1.cell? ⟨w.heap.size, 1, none⟩ = some (.int .i64 r) := cell_of_row _ _ 1 _ _ _ hC1
  have hk2 : w1.cell? ⟨w.heap.size, 2, none⟩ = some (.slice ba g.length bc) := cell_of_row _ _ 2 _ _ _ hC1
  clear hC1
  cases hf : fits g with
  | false =>
    have HP := Lib.hid (show fallP g list = [] by rw [fallP, hf]; rfl)
    clear hf
    have hs := hb01.size
    go_wp2
    go_ret
    rw [HP.out]
    exact ⟨_, _, rfl, own_empty w1 w.heap.size 3 1 hs, hb01.alloc hs _⟩
  | true =>
    have HP := Lib.hid (show fallP g list = fallTo g (list.length + g.length + 1) [] list by rw [fallP, hf]; rfl)
    have hF := fits_iff.1 hf
    have HR := Lib.hid (fun q : Nat => l11Doms_any g hF p r ba bc (w1.drewN q) (hg.later (below_drewN hb01 q)))
    have HG := Lib.hid (And.intro (hg.later hb01) (hin.later hb01))
    clear hf hb1
    go_wp2_with fail
    go_region_law (first | (go_simp; go_at_call 17; refine (HR.out _).mono ?_; rintro e w2 ⟨oa, oc, rfl, hM, hb2⟩; (have hb12 : Below w1.heap.size w1 w2 := ⟨hb2.os, hb2.tape, hb2.output, hb2.size, hb2.block⟩); (have hk0' := cell_later hb12 hk0); (have hk1' := cell_later hb12 hk1); (have hk2' := cell_later hb12 hk2); (have hg2 := HG.out.1.later hb12); (have hi2 := HG.out.2.later hb12)) | (go_simp; go_at_call 16; refine (l11Frontiers_any p r ba bc g hF oa oc la lc list w2 hg2 hM.rd hi2 hnil hll).mono ?_; rintro e w3 ⟨a3, c3, rfl, hown3, hb3⟩))
    all_goals
      have hb02 := hb01.trans (hb12.mono hb01.size)
      have hb03 := hb02.trans (hb3.mono hb02.size)
      have HO := Lib.hid (And.intro (own_lower hown3 (base' := w.heap.size) (fun k hk => Nat.le_trans hb02.size (hown3.lt k hk).1)) hb03)
      clear hown3 hb3 hb03 hb02 hb12 hk0' hk1' hk2' hg2 hi2 hM hb2 hk0 hk1 hk2
      go_wp2
      go_ret
      rw [HP.out]
      exact ⟨_, _, rfl, HO.out.1, HO.out.2⟩

end Go.Proofs.Ytonlidgmfmgcmaa
