/-
  The walk of the law FnOrderMoves.
-/
import Derived.Test.YthadaohnanpmiaaOrdSound
import Derived.Test.YthadaohnanpmiaaExOrder
import Derived.Test.YthadaohnanpmiaaExDoAtOnce
namespace Go.Proofs.Ythadaohnanpmiaa
open Go.RowKit

set_option maxHeartbeats 400000 in
theorem wwPairs_true (a a' : Option Addr) (len cap cap' : Nat) (rows rows' : List Hd) (w : World) (hin : MatRd w a len rows) (hin' : MatRd w a' len rows') (hsame : rows.map Hd.xs = rows'.map Hd.xs) (hs : len ≤ 1099511627776) (hrl : ∀ r ∈ rows, r.xs.length ≤ 1099511627776) :
    Calls Try.prog 44 #[.slice a len cap, .slice a' len cap'] w fun e w' => e = .returned (.bool true) ∧ ∃ m, w' = w.drewN m := by
  have heq : ((len : Int) == (len : Int)) = true := by simp
  have HS := Lib.hid hsame
  clear hsame
  go_enter Try.func44, Try.ntmps44
  go_wp2
  go_loopw [11] (fun i wr => ∃ k : Nat, k ≤ len ∧ i = .int .i64 k ∧ Hid (∃ m, wr = w.drewN m)) (fun i _ => len - (intOf i).toNat)
  case atStart => exact ⟨0, Nat.zero_le _, rfl, Lib.hid ⟨0, rfl⟩⟩
  case round =>
    obtain ⟨k, hk, rfl, hq⟩ := hrel
    by_cases hlt : k < len
    · have h1 := hin.quiet hq.out
      have h2 := hin'.quiet hq.out
      obtain ⟨b, off, ai, ci, xs, rfl, hx, hc, hi⟩ := h1.place hlt
      obtain ⟨b', off', ai', ci', xs', rfl, hx', hc', hi'⟩ := h2.place hlt
      obtain rfl : xs' = xs := by
        have e1 : (rows.map Hd.xs)[k]? = some xs := by rw [List.getElem?_map, hx]; rfl
        have e2 : (rows'.map Hd.xs)[k]? = some xs' := by rw [List.getElem?_map, hx']; rfl
        rw [HS.out, e2] at e1
        exact Option.some.inj e1
      have hl := hrl _ (List.mem_of_getElem? hx)
      have hw := fun n => wwInts_true ai ai' xs'.length ci ci' xs' (wr.drewN n) ⟨hi.length, hi.row⟩ ⟨hi'.length, hi'.row⟩ hl
      have HW := Lib.hid hw
      clear hx hx' hw
      go_wp2
      go_quiet (exact Calls.quiet_of (HW.out _))
      go_wp2
      go_roundw
      case rel => exact ⟨k + 1, by omega, by go_num, Lib.hid (quiet_trans hq.out)⟩
      case measure => simp [intOf]; omega
    · go_wp2
      go_ret
      exact ⟨rfl, hq.out⟩

set_option maxHeartbeats 400000 in
theorem drawOrder_any (w : World) (a : Option Addr) (len cap : Nat) (bs : List Int) (hin : BytesRd w a len bs) (hcap : len ≤ cap) :
    Calls Try.prog 43 #[.slice a len cap] w fun e w' =>
      ∃ a n c rows spare, e = .returned (.tuple #[.slice a n c, .int .i64 spare]) ∧ MatAt w' a n c rows ∧ n ≤ 9 ∧ (-1 ≤ spare ∧ spare ≤ 300) ∧ Below w.heap.size w w' := by
  go_enter Try.func43, Try.ntmps43
  go_wp2_with fail
  refine (open_any w a len cap bs hin hcap).mono ?_
  rintro e w1 ⟨a1, len1, cap1, bs1, rfl, hrd1, hlen1, hsz1⟩
  clear hin hcap
  go_wp2_with fail
  refine (l14List_any w w1 w.heap.size a1 len1 cap1 bs1 0 hrd1 hlen1 (by omega)).mono ?_
  rintro e w2 ⟨a2, n2, c2, rows, p2, rfl, hm2, hn2, hrd2, hp2⟩
  have hlit := lit_rd w2 [10, 11, 10, 0, 2, -1, 300, 299] (by decide)
  have hlt2 := hrd2.lt
  go_wp2_with fail
  refine (num_any w _ w.heap.size a1 len1 cap1 bs1 p2 w2.heap.size 8 8 [10, 11, 10, 0, 2, -1, 300, 299] (hrd2.alloc _) hlit (by omega) (by omega) hlen1 (by omega)).mono ?_
  rintro e w3 ⟨v3, hv3, rfl, hrd3, hg3⟩
  have hv : -1 ≤ v3 ∧ v3 ≤ 300 := by simp at hv3; omega
  have hm3 := (hm2.alloc (.cells ([10, 11, 10, 0, 2, -1, 300, 299].map (Value.int .i64)).toArray 3)).kept (S := fun k => k = w.heap.size) (turned_of_grown hg3 (fun k hk => by cases hk; rfl)) (fun k hk => by omega)
  clear hm2 hg3 hlit hrd2 hv3
  go_wp2
  go_ret2
  exact ⟨a2, n2, c2, rows, v3, rfl, hm3.at, hn2, hv, hrd3.below⟩

theorem fit_all {xss : List (List Int)} (h : movesOk xss = true) : movesFit xss 300 = true := by
  rw [movesFit, h, Bool.true_and, List.all_eq_true]
  rw [movesOk, Bool.and_eq_true, List.all_eq_true] at h
  intro x hx
  obtain ⟨i, j, rfl, hi, hj⟩ := isMove_cases (h.2 x hx)
  simp only [fitsIn, decide_eq_true_eq]
  omega

set_option maxRecDepth 100000 in
set_option maxHeartbeats 2000000 in
theorem fnOrderMoves_walk (a : Option Addr) (len cap : Nat) (zs : List Int) (w : World) (hrow : IsRow .u8 w a len cap zs) :
    Calls Try.prog 13 #[.slice a len cap] w fun e w' => e = .returned (.bool true) ∧ Below w.heap.size w w' := by
  have hin := bytes_of_row hrow
  have hcap := cap_of_row hrow
  clear hrow
  by_cases hbig : 1048576 < len
  · go_enter Try.func13, Try.ntmps13
    go_wp2
    go_ret
    exact ⟨rfl, Below.refl _ _⟩
  · go_enter Try.func13, Try.ntmps13
    go_wp2_with fail
    refine (drawOrder_any w a len cap _ hin hcap).mono ?_
    rintro e w1 ⟨a1, n1, c1, rows, spare, rfl, hm1, hn1, ⟨hs0, hs1⟩, hb1⟩
    clear hin hcap
    go_wp2_with fail
    refine (implOrder_all a1 n1 c1 rows spare w1 hm1.toMatRd (by omega)).mono ?_
    rintro e w2 ⟨a2, n2, c2, rs2, rfl, hg2, hx2, hb2⟩
    have hgr2 := hg2.at
    have hm2 := hm1.later hb2
    have hb02 := hb1.trans (hb2.mono hb1.size)
    have HX2 := Lib.hid hx2
    clear hm1 hb1 hb2 hx2 hg2
    go_wp2_with fail
    refine (specOrder_any a1 n1 c1 rows spare w2 hm2.toMatRd (by omega)).mono ?_
    rintro e w3 ⟨a3, n3, c3, rs3, rfl, hg3, hx3, hb3⟩
    have hwr3 := hg3.at
    have hgr3 := hgr2.later hb3
    have hm3 := hm2.later hb3
    have hb03 := hb02.trans (hb3.mono hb02.size)
    have hl2 := len_of_xs HX2.out
    have hl3 := len_of_xs hx3
    obtain rfl : n3 = n2 := by have := hgr3.length; have := hwr3.length; omega
    have hnn : n3 ≤ 20 := by
      have h1 := ordRes'_length (rows.map Hd.xs) spare
      have h2 := hm3.length
      have h3 := hwr3.length
      rw [List.length_map] at h1
      omega
    have HX3 : Hid (rs2.map Hd.xs = rs3.map Hd.xs) := Lib.hid (by rw [HX2.out, hx3])
    have HLN : Hid (∀ r ∈ rs2, r.xs.length ≤ 1099511627776) := Lib.hid (lens_two HX2.out (ordRes'_two _ _))
    clear hm2 hb02 hb3 hx3 hg3 hgr2 hl2 hl3
    by_cases hok : ordOk (rows.map Hd.xs) spare = true
    · rw [hok]
      have hok2 := hok
      rw [ordOk, onceAll, Bool.and_eq_true, Bool.and_eq_true, Bool.and_eq_true, decide_eq_true_eq, Bool.not_eq_true'] at hok2
      obtain ⟨⟨⟨hmv, hon⟩, hsp0, hsp1⟩, hnm⟩ := hok2
      obtain ⟨sp, rfl⟩ := Int.eq_ofNat_of_zero_le hsp0
      have HMV := movesOk_rows hmv
      have hmx : ∀ x ∈ rows.map Hd.xs, isMove x = true := fun x hx => by obtain ⟨r, hr, rfl⟩ := List.mem_map.1 hx; exact HMV r hr
      have hsound := order_sound (vals := run 0 300) hmx (nodup_to HMV hon) ⟨hsp0, hsp1⟩ (ordInv_pairs hmx hnm) (run_length 0 300)
      have hR : ordRes' (rows.map Hd.xs) sp = (ordRes sp (pairs (rows.map Hd.xs))).map enc := by rw [ordRes', if_pos hok]
      have hfit : movesFit (rows.map Hd.xs) 300 = true := fit_all hmv
      have hfit2 : movesFit (rs2.map Hd.xs) 300 = true := by
        rw [HX2.out, hR]
        refine fit_all ?_
        rw [movesOk, Bool.and_eq_true, decide_eq_true_eq, List.all_eq_true]
        refine ⟨?_, fun x hx => ?_⟩
        · rw [← hR, ← len_of_xs HX2.out, hgr3.length]; omega
        · obtain ⟨m, hm, rfl⟩ := List.mem_map.1 hx
          have := hsound.2 m hm
          simp only [enc, isMove, decide_eq_true_eq]
          omega
      have hda : daRes (rows.map Hd.xs) (run 0 300) = doAt (rows.map Hd.xs) (run 0 300) := by rw [daRes, run_length, onceFit, hfit, hon, if_pos (show (true && true) = true from rfl)]
      have hof : onceFit (rows.map Hd.xs) 300 = true := by rw [onceFit, hfit, hon]; rfl
      have hdm : dmRes (rs2.map Hd.xs) (run 0 300) = doSeq (rs2.map Hd.xs) (run 0 300) := by rw [dmRes, run_length, hfit2, if_pos rfl]
      have HDA := Lib.hid (And.intro hda (And.intro hof (show (doAt (rows.map Hd.xs) (run 0 300)).length = 300 by rw [doAt_length, run_length])))
      have HDM := Lib.hid (And.intro hdm (And.intro hfit2 (show (doSeq (rs2.map Hd.xs) (run 0 300)).length = 300 by rw [doSeq_length, run_length])))
      have HEQ : Hid ((doSeq (rs2.map Hd.xs) (run 0 300)).set sp 0 = (doAt (rows.map Hd.xs) (run 0 300)).set sp 0) := Lib.hid (by rw [HX2.out, hR]; exact hsound.1)
      clear hok hmv hon hnm HMV hmx hsound hR hfit hfit2 hda hof hdm
      go_wp2_with fail
      refine (wwPairs_true a2 a3 n3 c2 c3 rs2 rs3 w3 hgr3.toMatRd hwr3.toMatRd HX3.out (by omega) HLN.out).mono ?_
      rintro e w4 ⟨rfl, hq4⟩
      have hb34 := below_of_quiet hq4
      have hb04 := hb03.trans (hb34.mono hb03.size)
      have hm4 := hm3.later hb34
      have hg4 := hgr3.later hb34
      clear hq4 hb34 hb03 hm3 hgr3 hwr3
      have hown4 := own_empty w4 w4.heap.size 3 1 (Nat.le_refl _)
      go_wp2
      go_loopw [9, 62] (fun o i wr => ∃ (k c : Nat) (ao : Option Addr), k ≤ 300 ∧ i = .int .i64 k ∧ o = .slice ao k c ∧ wr.ownsRow w4.heap.size 3 1 (.slice ao k c) k ((run 0 k).map (Value.int .i64)) ∧ Below w4.heap.size w4 wr) (fun _ i _ => 300 - (intOf i).toNat)
      case atStart => exact ⟨0, 0, _, by omega, rfl, rfl, hown4, (Below.refl _ _).alloc (Nat.le_refl _) _⟩
      case round =>
        obtain ⟨k, c, ao, hk, rfl, rfl, hown, hbr⟩ := hrel
        clear hown4
        by_cases hlt : k < 300
        · have hbs := hbr.size
          go_wp2_with (at_builtin; refine app_ints rfl (.tmp 65) (.tmp 67) rfl w4.heap.size _ k _ rfl (hown.alloc _) _ 1 _ [(k : Int)] rfl rfl (rowAt_one _ _ _) (by rintro ⟨⟩) (by omega) (by simp; omega) ?_; intro a6 c6 w6 hown6 hg6 hlies6)
          have hb6 : Below w4.heap.size w4 w6 := (hbr.alloc hbs _).grown hg6 (by simp; omega) (fun q hq => (hown.lt q hq).1)
          rw [← List.map_append] at hown6
          clear hg6 hlies6 hown
          go_wp2
          go_roundw
          case rel =>
            refine ⟨k + 1, _, _, by omega, by go_num, rfl, ?_, hb6⟩
            rw [run_succ, Int.zero_add]
            exact hown6
          case measure => simp [intOf]; omega
        · obtain rfl : k = 300 := by omega
          have hv := ints_of_own hown
          have hb0r := hb04.trans (hbr.mono hb04.size)
          have hm5 := hm4.later hbr
          have hg5 := hg4.later hbr
          clear hown hbr hm4 hg4 hb04
          go_wp2_with fail
          refine (implDoAtOnce_all a1 n1 c1 rows ao 300 c (run 0 300) wr hm5.toMatRd hv (by omega) (by omega)).mono ?_
          rw [HDA.out.1, HDA.out.2.1, HDA.out.2.2]
          rintro e w6 ⟨a6, c6, rfl, hown6, hb6⟩
          have hg6 := hg5.later hb6
          have hv6 := hv.later hb6
          have hb06 := hb0r.trans (hb6.mono hb0r.size)
          have hl6 := hown6.lt
          clear hm5 hg5 hv hb6
          go_wp2_with fail
          refine (implDoMoves_all a2 n3 c2 rs2 ao 300 c (run 0 300) w6 hg6.toMatRd hv6 (by omega) (by omega)).mono ?_
          rw [HDM.out.1, HDM.out.2.1, HDM.out.2.2]
          rintro e w7 ⟨a7, c7, rfl, hown7, hb7⟩
          have ha7 := ownsRow_below hown6 hb7
          have hb07 := hb06.trans (hb7.mono hb06.size)
          have hsz6 := hb06.size
          have hsz0 := hb0r.size
          clear hg6 hv6 hb06 hb7 hown6
          obtain ⟨ga, rfl, hca, hfa, hga⟩ := own_cell ha7 (i := sp) (by omega)
          obtain ⟨gb, rfl, hcb, hfb, hgb⟩ := own_cell hown7 (i := sp) (by omega)
          have hgab : ga < w6.heap.size := (hl6 ga rfl).2
          have hsa := ha7.stored sp (.int .i64 0)
          have hbk : (w7.setCell ⟨ga, sp, none⟩ (.int .i64 0)).ownsRow w6.heap.size 3 1 (.slice (some ⟨gb, 0, none⟩) 300 c7) 300 ((doSeq (rs2.map Hd.xs) (run 0 300)).map (Value.int .i64)) :=
            own_turned hown7 (turned_of_grown hsa.2 (S := fun k => some ga = some k) (fun _ hk => hk)) (fun k hk hs => by have h1 : some gb = some k := hk; have h2 : some ga = some k := hs; simp at h1 h2; omega)
          obtain ⟨gb', hgb', hcb', hfb', _⟩ := own_cell hbk (i := sp) (by omega)
          obtain rfl : gb = gb' := by simpa using hgb'
          have hsb := hbk.stored sp (.int .i64 0)
          have hak := own_turned hsa.1 (turned_of_grown hsb.2 (S := fun k => some gb = some k) (fun _ hk => hk)) (fun k hk hs => by have h1 : some ga = some k := hk; have h2 : some gb = some k := hs; simp at h1 h2; omega)
          have hbE := (hb07.grown hsa.2 hb07.size (fun k hk => by have h1 : some ga = some k := hk; simp at h1; omega)).grown hsb.2 (by simp [World.setCell]; exact hb07.size) (fun k hk => by have h1 : some gb = some k := hk; simp at h1; omega)
          have HA : Hid (IntsRd _ _ 300 _) := Lib.hid (ints_of_own (xs := (doAt (rows.map Hd.xs) (run 0 300)).set sp 0) (by rw [List.map_set]; exact hak)).toIntsRd
          have HB : Hid (IntsRd _ _ 300 _) := Lib.hid (ints_of_own (xs := (doAt (rows.map Hd.xs) (run 0 300)).set sp 0) (by rw [← HEQ.out, List.map_set]; exact hsb.1)).toIntsRd
          have HBE := Lib.hid hbE
          clear hak hsb hbk hsa hbE ha7 hown7 hgb' hcb hfb
          go_wp2_with fail
          refine (wwInts_true _ _ 300 _ _ _ _ HA.out HB.out (by omega)).mono ?_
          rintro e w8 ⟨rfl, hq8⟩
          have hb8 := HBE.out.trans ((below_of_quiet hq8).mono HBE.out.size)
          clear hq8
          go_wp2
          go_ret
          exact ⟨rfl, hb8⟩
    · have hok' : ordOk (rows.map Hd.xs) spare = false := by simpa using hok
      have hz : n3 = 0 := by
        have h1 := len_of_xs HX2.out
        have hnil : ordRes' (rows.map Hd.xs) spare = [] := by rw [ordRes', hok', if_neg (by simp)]
        rw [hnil] at h1
        have := hgr3.length
        simp only [List.length_nil] at h1
        omega
      subst hz
      rw [hok']
      clear hok hok'
      go_wp2_with fail
      refine (wwPairs_true a2 a3 0 c2 c3 rs2 rs3 w3 hgr3.toMatRd hwr3.toMatRd HX3.out (by omega) HLN.out).mono ?_
      rintro e w4 ⟨rfl, hq4⟩
      have hb34 := below_of_quiet hq4
      have hb04 := hb03.trans (hb34.mono hb03.size)
      have hg4 := hgr3.later hb34
      have hw4 := hwr3.later hb34
      clear hq4 hb34 hb03 hm3 hgr3 hwr3
      go_wp2_with fail
      refine (wwPairs_true a2 a3 0 c2 c3 rs2 rs3 w4 hg4.toMatRd hw4.toMatRd HX3.out (by omega) HLN.out).mono ?_
      rintro e w5 ⟨rfl, hq5⟩
      have hb05 := hb04.trans ((below_of_quiet hq5).mono hb04.size)
      clear hq5
      go_wp2
      go_ret
      exact ⟨rfl, hb05⟩

end Go.Proofs.Ythadaohnanpmiaa
