/-
  The walk of the law FnAtOnce: moves at once put values where they belong, and leave the others.
-/
import Derived.Test.YthadaohnanpmiaaLDoMoves
import Derived.Test.YthadaohnanpmiaaDoAtOnce
namespace Go.Proofs.Ythadaohnanpmiaa
open Go.RowKit

theorem doAt_other (vals : List Int) : ∀ (xss : List (List Int)) (out : List Int) (r : Nat), (∀ m ∈ xss, to m ≠ r) → (xss.foldl (stepAt vals) out)[r]? = out[r]? := by
  intro xss
  induction xss with
  | nil => intro out r _; rfl
  | cons m xss ih =>
    intro out r h
    rw [List.foldl_cons, ih _ r (fun x hx => h x (by simp [hx]))]
    rw [stepAt, List.getElem?_set_ne (h m (by simp))]
theorem doAt_at (vals : List Int) : ∀ (xss : List (List Int)) (out : List Int) (k i j : Nat), (xss.map to).Nodup → xss[k]? = some [(i : Int), (j : Int)] → i < out.length → (xss.foldl (stepAt vals) out)[i]? = some (vals.getD j 0) := by
  intro xss
  induction xss with
  | nil => intro out k i j _ h; simp at h
  | cons m xss ih =>
    intro out k i j hnd hk hi
    rw [List.map_cons, List.nodup_cons] at hnd
    rw [List.foldl_cons]
    cases k with
    | zero =>
      simp at hk
      subst hk
      have hto : to [(i : Int), (j : Int)] = i := by simp [to]
      rw [hto] at hnd
      rw [doAt_other vals xss _ i (fun x hx he => hnd.1 (List.mem_map.2 ⟨x, hx, he⟩))]
      rw [stepAt_two vals out i j rfl, List.getElem?_set_self hi]
    | succ k =>
      refine ih _ k i j hnd.2 (by simpa using hk) ?_
      simp [stepAt]
      exact hi
theorem nodup_to {rows : List Hd} (hm : ∀ r ∈ rows, isMove r.xs = true) (h : onceOk (rows.map Hd.xs) = true) : ((rows.map Hd.xs).map to).Nodup := by
  rw [onceOk, decide_eq_true_eq] at h
  rw [List.nodup_iff_pairwise_ne, List.map_map, List.pairwise_map]
  rw [List.nodup_iff_pairwise_ne, hds, List.map_map, List.pairwise_map] at h
  refine List.Pairwise.imp_of_mem ?_ h
  intro x y hx hy hne heq
  obtain ⟨i, j, hij, _, _⟩ := isMove_cases (hm x hx)
  obtain ⟨i', j', hij', _, _⟩ := isMove_cases (hm y hy)
  apply hne
  simp only [Function.comp, hij, hij', to] at heq ⊢
  simp at heq ⊢
  omega

theorem drawDoAtOnce_any (w : World) (a : Option Addr) (len cap : Nat) (bs : List Int) (hin : BytesRd w a len bs) (hcap : len ≤ cap) :
    Calls Try.prog 33 #[.slice a len cap] w fun e w' => DrewBoth w e w' := by
  go_enter Try.func33, Try.ntmps33
  go_wp2_with fail
  refine (l14Values_any w a len cap bs hin hcap).mono ?_
  rintro e w1 ⟨a1, n1, c1, rows, a2, n2, c2, vals, rfl, hrest⟩
  go_wp2
  go_ret2
  exact ⟨a1, n1, c1, rows, a2, n2, c2, vals, rfl, hrest⟩

theorem IntsRd.quiet {w wr : World} {a : Option Addr} {len : Nat} {xs : List Int} (h : IntsRd w a len xs) (hq : ∃ q, wr = w.drewN q) : IntsRd wr a len xs := by
  obtain ⟨q, rfl⟩ := hq
  exact ⟨h.length, h.row⟩

set_option maxHeartbeats 2000000 in
theorem fnAtOnce_walk (a : Option Addr) (len cap : Nat) (zs : List Int) (w : World) (hrow : IsRow .u8 w a len cap zs) :
    Calls Try.prog 8 #[.slice a len cap] w fun e w' => e = .returned (.bool true) ∧ Below w.heap.size w w' := by
  have hin := bytes_of_row hrow
  have hcap := cap_of_row hrow
  clear hrow
  by_cases hbig : 1048576 < len
  · go_enter Try.func8, Try.ntmps8
    go_wp2
    go_ret
    exact ⟨rfl, Below.refl _ _⟩
  · go_enter Try.func8, Try.ntmps8
    go_wp2_with fail
    refine (drawDoAtOnce_any w a len cap _ hin hcap).mono ?_
    rintro e w1 ⟨a1, n1, c1, rows, a2, n2, c2, vals, rfl, hm1, hn1, hi1, hn2, _, _, hb1⟩
    clear hin hcap
    go_wp2_with fail
    refine (implDoAtOnce_all a1 n1 c1 rows a2 n2 c2 vals w1 hm1.toMatRd hi1 (by omega) (by omega)).mono ?_
    rintro e w2 ⟨a3, c3, rfl, hown3, hb2⟩
    have hg2 := (ints_of_own hown3).toIntsRd
    clear hown3
    have hb02 := hb1.trans (hb2.mono hb1.size)
    have hm2 := hm1.later hb2
    have hi2 := hi1.later hb2
    clear hm1 hi1 hb1 hb2
    go_wp2_with fail
    refine (specDoAtOnce_all a1 n1 c1 rows a2 n2 c2 vals w2 hm2.toMatRd hi2 (by omega) (by omega)).mono ?_
    rintro e w3 ⟨a4, c4, rfl, hown4, hb3⟩
    have hw3 := (ints_of_own hown4).toIntsRd
    have hg3 := hg2.later hb3
    have hb03 := hb02.trans (hb3.mono hb02.size)
    have hm3 := hm2.later hb3
    have hi3 := hi2.later hb3
    have hl2 := hi3.length
    clear hown4 hm2 hi2 hb02 hb3 hg2
    by_cases hfit : onceFit (rows.map Hd.xs) n2 = true
    · have hres : daRes (rows.map Hd.xs) vals = doAt (rows.map Hd.xs) vals := by rw [daRes, hl2, if_pos hfit]
      have hlr : (doAt (rows.map Hd.xs) vals).length = n2 := by rw [doAt_length, hl2]
      rw [hfit]
      rw [hres, hlr] at hg3 hw3 ⊢
      have hfit2 := hfit
      rw [onceFit, Bool.and_eq_true] at hfit2
      have HF := Lib.hid hfit2.1
      have hok := hfit2.1
      rw [movesFit_eq, Bool.and_eq_true] at hok
      have HM := Lib.hid (movesOk_rows hok.1)
      have HND := Lib.hid (nodup_to (movesOk_rows hok.1) hfit2.2)
      have HL := Lib.hid hl2
      have HR2 := Lib.hid hlr
      clear hres hfit hl2 hlr hfit2 hok
      go_wp2_with fail
      refine (wwInts_true a3 a4 n2 c3 c4 _ w3 hg3 hw3 (by omega)).mono ?_
      rintro e w4 ⟨rfl, hq4⟩
      have hb34 := below_of_quiet hq4
      have hb04 := hb03.trans (hb34.mono hb03.size)
      have hm4 := hm3.later hb34
      have hi4 := hi3.later hb34
      have hg4 := hg3.later hb34
      clear hq4 hb34 hb03 hm3 hi3 hg3 hw3
      go_wp2
      have hown4 := own_empty w4 w4.heap.size 3 1 (Nat.le_refl _)
      go_loopw [9, 62] (fun o i wr => ∃ (k : Nat) (ao : Option Addr) (c : Nat), k ≤ n1 ∧ i = .int .i64 k ∧ o = .slice ao k c ∧ wr.ownsRow w4.heap.size 3 1 (.slice ao k c) k ((hds ((rows.take k).map Hd.xs)).map (Value.int .i64)) ∧ Below w4.heap.size w4 wr) (fun _ i _ => n1 - (intOf i).toNat)
      case atStart => exact ⟨0, _, _, Nat.zero_le _, rfl, rfl, hown4, (Below.refl _ _).alloc (Nat.le_refl _) _⟩
      case round =>
        obtain ⟨k, ao, c, hk, rfl, rfl, hown, hbr⟩ := hrel
        clear hown4
        by_cases hlt : k < n1
        · have hm5 := (hm4.later hbr).toMatRd
          have hi5 := (hi4.later hbr).toIntsRd
          have hg5 := hg4.later hbr
          obtain ⟨b, off, ai, ci, xs, rfl, hx, hc, hi⟩ := hm5.place hlt
          obtain ⟨i, j, hij, hin1, hjn1⟩ := fit_row HF.out hx
          simp only at hij
          subst hij
          obtain ⟨bi, oi, rfl, hci, hcj⟩ := two_cells hi
          obtain ⟨bg, og, xg, rfl, hxg, hcg⟩ := hg5.place hin1
          obtain ⟨bv, ov, xv, rfl, hxv, hcv⟩ := hi5.place hjn1
          obtain rfl : xg = xv := by
            have hxs : (rows.map Hd.xs)[k]? = some [(i : Int), (j : Int)] := by rw [List.getElem?_map, hx]; rfl
            have h1 := doAt_at vals (rows.map Hd.xs) vals k i j HND.out hxs (by have := HL.out; omega)
            rw [show (rows.map Hd.xs).foldl (stepAt vals) vals = doAt (rows.map Hd.xs) vals from rfl, hxg, List.getD_eq_getElem?_getD, hxv] at h1
            exact Option.some.inj h1
          have hne : (xg != xg) = false := by simp
          have HT := Lib.hid (take_succ_of hx)
          have hbs := hbr.size
          clear hx hxg hxv
          go_wp2
          go_quiet (fail)
          have hownq : (wr.drewN nq).ownsRow w4.heap.size 3 1 (.slice ao k c) k ((hds ((rows.take k).map Hd.xs)).map (Value.int .i64)) := hown
          go_wp2_with (at_builtin; refine app_ints rfl (.tmp 79) (.tmp 83) rfl w4.heap.size _ k _ rfl (hownq.alloc _) _ 1 _ [(i : Int)] rfl rfl (rowAt_one _ _ _) (by rintro ⟨⟩) (by omega) (by simp; omega) ?_; intro a6 c6 w6 hown6 hg6 hlies6)
          have hb6 : Below w4.heap.size w4 w6 := ((below_drewN hbr nq).alloc hbs _).grown hg6 (by simp; omega) (fun q hq => (hownq.lt q hq).1)
          rw [← List.map_append] at hown6
          clear hg6 hlies6 hownq hown
          go_wp2
          go_roundw
          case rel =>
            refine ⟨k + 1, _, _, by omega, by go_num, rfl, ?_, hb6⟩
            rw [HT.out, List.map_append, hds, List.map_append]
            simp only [List.map_cons, List.map_nil]
            exact hown6
          case measure => simp [intOf]; omega
        · obtain rfl : k = n1 := by omega
          have hmv := (ints_of_own hown).toIntsRd
          clear hown
          obtain ⟨wo, hwo⟩ : ∃ wo : World, wo = wr := ⟨_, rfl⟩
          subst hwo
          go_wp2
          go_loopw [88] (fun i wx => ∃ q : Nat, q ≤ n2 ∧ i = .int .i64 q ∧ Hid (∃ m, wx = wo.drewN m)) (fun i _ => n2 - (intOf i).toNat)
          case atStart => exact ⟨0, Nat.zero_le _, rfl, Lib.hid ⟨0, rfl⟩⟩
          case round =>
            obtain ⟨q, hq, rfl, hqq⟩ := hrel
            have hmx := hmv.quiet hqq.out
            have hgx := (hg4.later hbr).quiet hqq.out
            have hvx := (hi4.later hbr).toIntsRd.quiet hqq.out
            by_cases hlt2 : q < n2
            · by_cases hmem : (q : Int) ∈ hds ((rows.take k).map Hd.xs)
              · have hd : decide ((q : Int) ∈ hds ((rows.take k).map Hd.xs)) = true := decide_eq_true hmem
                have hw := fun nn => (wwHas_any ao k c _ (q : Int) (wr.drewN nn) ⟨hmx.length, hmx.row⟩ (by omega))
                rw [hd] at hw
                have HW := Lib.hid hw
                clear hd hmem hw
                go_wp2
                go_quiet (exact Calls.quiet_of_same ((HW.out _).mono fun _ _ ⟨he, hww⟩ => ⟨he, hww.symm⟩))
                go_wp2
                go_roundw
                case rel => exact ⟨q + 1, by omega, by go_num, Lib.hid (quiet_trans hqq.out)⟩
                case measure => simp [intOf]; omega
              · have hd : decide ((q : Int) ∈ hds ((rows.take k).map Hd.xs)) = false := decide_eq_false hmem
                have hw := fun nn => (wwHas_any ao k c _ (q : Int) (wr.drewN nn) ⟨hmx.length, hmx.row⟩ (by omega))
                rw [hd] at hw
                have HW := Lib.hid hw
                obtain ⟨bg, og, xg, rfl, hxg, hcg⟩ := hgx.place hlt2
                obtain ⟨bv, ov, xv, rfl, hxv, hcv⟩ := hvx.place hlt2
                obtain rfl : xg = xv := by
                  have hnt : ∀ m ∈ rows.map Hd.xs, to m ≠ q := by
                    intro m hm he
                    obtain ⟨r, hr, rfl⟩ := List.mem_map.1 hm
                    obtain ⟨i, j, hij, _, _⟩ := isMove_cases (HM.out r hr)
                    apply hmem
                    rw [List.take_of_length_le (by have := hm4.length; omega), hds, List.map_map]
                    refine List.mem_map.2 ⟨r, hr, ?_⟩
                    rw [hij, to] at he
                    simp only [Function.comp, hij]
                    simp at he ⊢
                    omega
                  have h1 := doAt_other vals (rows.map Hd.xs) vals q hnt
                  rw [show (rows.map Hd.xs).foldl (stepAt vals) vals = doAt (rows.map Hd.xs) vals from rfl, hxg, hxv] at h1
                  exact Option.some.inj h1
                have hne : (xg != xg) = false := by simp
                clear hd hmem hw hxg hxv
                go_wp2
                go_quiet (exact Calls.quiet_of_same ((HW.out _).mono fun _ _ ⟨he, hww⟩ => ⟨he, hww.symm⟩))
                go_wp2
                go_roundw
                case rel => exact ⟨q + 1, by omega, by go_num, Lib.hid (quiet_trans hqq.out)⟩
                case measure => simp [intOf]; omega
            · have heq : ((n2 : Int) == (n2 : Int)) = true := by simp
              have hb0x := (hb04.trans (hbr.mono hb04.size)).trans ((below_of_quiet hqq.out).mono (hb04.trans (hbr.mono hb04.size)).size)
              go_wp2
              go_ret
              exact ⟨rfl, hb0x⟩
    · have hfit' : onceFit (rows.map Hd.xs) n2 = false := by simpa using hfit
      have hres : daRes (rows.map Hd.xs) vals = [] := by rw [daRes, hl2, if_neg hfit]
      rw [hfit']
      rw [hres] at hg3 hw3 ⊢
      have hlz : ([] : List Int).length = 0 := rfl
      rw [hlz] at hg3 hw3 ⊢
      clear hres hfit hfit' hl2 hlz
      go_wp2_with fail
      refine (wwInts_true a3 a4 0 c3 c4 _ w3 hg3 hw3 (by omega)).mono ?_
      rintro e w4 ⟨rfl, hq4⟩
      have hb34 := below_of_quiet hq4
      have hb04 := hb03.trans (hb34.mono hb03.size)
      have hg4 := hg3.later hb34
      have hw4 := hw3.later hb34
      clear hq4 hb34 hb03 hm3 hi3 hg3 hw3
      go_wp2_with fail
      refine (wwInts_true a3 a4 0 c3 c4 _ w4 hg4 hw4 (by omega)).mono ?_
      rintro e w5 ⟨rfl, hq5⟩
      have hb05 := hb04.trans ((below_of_quiet hq5).mono hb04.size)
      clear hq5
      go_wp2
      go_ret
      exact ⟨rfl, hb05⟩

end Go.Proofs.Ythadaohnanpmiaa
