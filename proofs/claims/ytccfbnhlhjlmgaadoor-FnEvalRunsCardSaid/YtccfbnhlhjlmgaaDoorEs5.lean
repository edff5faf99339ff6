
/-
  Expressions: the reference's l5Eval and EvalExpr (printed by mkes5.py).
-/
import Derived.Test.YtccfbnhlhjlmgaaDoorEs4
import Derived.Deep.QuietTactic
import Derived.BigQuiet
namespace Go.Proofs.YtccfbnhlhjlmgaaDoor
open Go.RowKit

theorem eq_of_toList {s t : ByteArray} (h : s.toList = t.toList) : s = t := by
  rw [ByteArray.toList_eq, ByteArray.toList_eq] at h
  have h3 : s.data = t.data := Array.toList_inj.1 h
  cases s; cases t; cases h3; rfl
theorem lvl_in {op : Int} (h : 0 < lvl op) : 3 ≤ op ∧ op ≤ 10 := by
  unfold lvl at h
  split at h
  · omega
  · split at h
    · omega
    · split at h
      · omega
      · split at h
        · omega
        · exact absurd h (by decide)
theorem valV_some {s : ByteArray} : ∀ {ns : List ByteArray} {vs : List Int} {k : Nat} {y : ByteArray} {v : Int}, (∀ j z, j < k → ns[j]? = some z → (z.toList == s.toList) = false) → ns[k]? = some y → (y.toList == s.toList) = true → vs[k]? = some v → valV ns vs s = some v
  | [], _, _, _, _, _, h, _, _ => by simp at h
  | _ :: _, [], _, _, _, _, _, _, h => by simp at h
  | n :: ns, u :: vs, 0, y, v, h, hy, he, hv => by
    simp at hy hv
    subst hy; subst hv
    rw [valV, if_pos (eq_of_toList (by simpa using he)).symm]
  | n :: ns, u :: vs, k + 1, y, v, h, hy, he, hv => by
    have h0 := h 0 n (by omega) (by simp)
    have hne : ¬ s = n := fun e => by rw [e] at h0; simp at h0
    rw [valV, if_neg hne]
    exact valV_some (ns := ns) (vs := vs) (k := k) (fun j z hj hz => h (j + 1) z (by omega) (by simpa using hz)) (by simpa using hy) he (by simpa using hv)

set_option maxRecDepth 100000 in
set_option maxHeartbeats 8000000 in
theorem l5Eval_any (ns : List ByteArray) (vs : List Int) (na va : Option Addr) (nn nc vc : Nat) (hnn : nn ≤ 1099511627776) (hlen : ns.length = nn ∧ vs.length = nn) (hvb : bytesB vs = true) : ∀ (d m : Nat) (cs : List Value) (x : ExprD) (w : World), ExprAt d w cs x → sizeD nameD m x ≠ none → anyE (badP ns) d x = false → (StrsE w na nn ns ∧ IntsRd w va nn vs) →
    Calls Tryd.prog 88 #[.agg cs.toArray, .slice na nn nc, .slice va nn vc] w fun e w' => e = .returned (.tuple #[.int .i64 (arithP (evalV (valV ns vs) d x)).1, .int .i64 (arithP (evalV (valV ns vs) d x)).2]) ∧ Below w.heap.size w w' := by
  intro d
  induction d with
  | zero => exact fun _ _ _ _ h => h.elim
  | succ d ih =>
  intro m cs x w hx hs hN hE
  obtain ⟨ka, kc, rfl, ⟨hkl, hop⟩, hks⟩ := hx
  obtain ⟨m', rfl, hh, hk⟩ := size_parts hs
  obtain ⟨hn, hnk⟩ := any_partsE hN
  have hcase := head_casesV hh (show badP ns (.mk x.op x.n x.name x.kids) = false from hn)
  have hG : ∀ s v, valV ns vs s = some v → 0 ≤ v ∧ v ≤ 255 := fun s v h => valV_range hvb h
  have hba : Below w.heap.size w (w.alloc (.cells #[.int .i64 x.op, .int .i64 x.n, .string x.name, .slice ka x.kids.length kc] 29)) := (Below.refl _ _).alloc (Nat.le_refl _) _
  have hrow := heap_alloc_new w (.cells #[.int .i64 x.op, .int .i64 x.n, .string x.name, .slice ka x.kids.length kc] 29)
  have HIH := Lib.hid (fun i (hi : i < x.kids.length) cs' W (hx' : ExprAt d W cs' (x.kids.getD i default)) (hE' : StrsE W na nn ns ∧ IntsRd W va nn vs) => ih m' cs' (x.kids.getD i default) W hx' (hk _ (kid_get hi).2) (hnk _ (kid_get hi).2) hE')
  have HRG := Lib.hid (fun i (hi : i < x.kids.length) v h => evalV_range hG d m' (x.kids.getD i default) v (hk _ (kid_get hi).2) (hnk _ (kid_get hi).2) h)
  have HK := Lib.hid (And.intro (hks.later (exprAt_lasts d) hba) (And.intro (hE.1.later hba) (hE.2.later hba)))
  have HB := Lib.hid hba
  have HLN := Lib.hid (And.intro hlen hvb)
  have hnnI : (nn : Int) ≤ 1099511627776 := by omega
  have e0 := cell_of_row _ _ 0 _ _ _ hrow
  have e1 := cell_of_row _ _ 1 _ _ _ hrow
  have e2 := cell_of_row _ _ 2 _ _ _ hrow
  have e3 := cell_of_row _ _ 3 _ _ _ hrow
  simp only [List.getElem?_toArray, List.getElem?_cons_zero, List.getElem?_cons_succ] at e0 e1 e2 e3
  obtain ⟨R, hR⟩ : ∃ R, R = evalV (valV ns vs) (d + 1) x := ⟨_, rfl⟩
  rw [← hR]
  have HEV := Lib.hid (hR.trans (evalV.eq_2 (valV ns vs) x d))
  clear hs hN hE hks hh hk hnk hn hba hrow ih hG hR hlen hvb hop
  go_enter Tryd.func88, Tryd.ntmps88
  go_upto_region 1 with fail
  obtain ⟨b, hb⟩ : ∃ b, b = w.heap.size := ⟨_, rfl⟩
  generalize w.alloc (.cells #[.int .i64 x.op, .int .i64 x.n, .string x.name, .slice ka x.kids.length kc] 29) = W1 at HK HB e0 e1 e2 e3 ⊢
  rw [← hb] at e0 e1 e2 e3 ⊢
  clear hb
  rcases hcase with ⟨h1, h2, h3⟩ | ⟨h2v, hnm⟩ | ⟨⟨h1, hv2, hv13, hv12⟩, h10, hl, hk2⟩ | ⟨h10, hk2⟩ | ⟨h11, hk2⟩
  · have o1 : (x.op == 1) = true := by simp [h1]
    have HV := Lib.hid (show R = some x.n from HEV.out.trans (if_pos h1))
    clear h1 e2 e3 hkl
    go_wp2
    go_ret2
    exact ⟨by rw [HV.out]; rfl, HB.out⟩
  · have o1 : (x.op == 1) = false := by simp [h2v]
    have o2 : (x.op == 2) = true := by simp [h2v]
    have HV := Lib.hid (show R = some ((valV ns vs x.name).getD 0) from HEV.out.trans ((if_neg (by omega)).trans (if_pos h2v)))
    have HNM := Lib.hid hnm
    clear h2v hnm e1 e3 hkl
    generalize x.name = name at *
    go_wp2_with fail
    go_loopg [8] nn (fun F i wr => ∃ k : Nat, k + F = nn ∧ i = .int .i64 k ∧ Hid (Below W1.heap.size W1 wr ∧ ∀ j z, j < k → ns[j]? = some z → (z.toList == name.toList) = false))
    case atStart => exact ⟨0, by omega, rfl, Lib.hid ⟨Below.refl _ _, fun j x hj => by omega⟩⟩
    case round =>
      obtain ⟨k, hk, rfl, hno⟩ := hrel
      have e2 := cell_later hno.out.1 e2
      by_cases hlt : k < nn
      · obtain ⟨b1, off1, y, rfl, hy, hc⟩ := (HK.out.2.1.later hno.out.1).place hlt
        obtain ⟨b2, off2, u, rfl, hu, hcu⟩ := (HK.out.2.2.later hno.out.1).place hlt
        have hki : (k : Int) < (nn : Int) := by omega
        have HY := Lib.hid (And.intro hy hu)
        clear hy hu
        go_upto_region 8 with fail
        go_quiet (fail)
        have HBE := Lib.hid (below_drewN hno.out.1 nq)
        cases ht : y.toList == name.toList with
        | true =>
          have HI := Lib.hid (show R = some u from HV.out.trans (by rw [valV_some hno.out.2 HY.out.1 ht HY.out.2]; rfl))
          go_wp2
          go_ret2
          exact ⟨by rw [HI.out]; rfl, HB.out.trans (HBE.out.mono HB.out.size)⟩
        | false =>
          have HN := Lib.hid ht
          go_wp2
          go_roundg (gk - 1)
          case measure => omega
          case rel =>
            refine ⟨k + 1, by omega, by go_num, Lib.hid ⟨HBE.out, fun j z hj hjz => ?_⟩⟩
            by_cases hjk : j = k
            · subst hjk
              rw [HY.out.1] at hjz
              cases hjz
              exact HN.out
            · exact hno.out.2 j z (by omega) hjz
      · exfalso
        obtain ⟨t, ht, he⟩ := List.any_eq_true.1 HNM.out
        obtain ⟨j, hj⟩ := List.getElem?_of_mem ht
        have h1 := hno.out.2 j t (by have := (List.getElem?_eq_some_iff.1 hj).1; have := HLN.out.1.1; omega) hj
        rw [← eqE_comm name t, he] at h1
        cases h1
  · have o1 : (x.op == 1) = false := by simpa using h1
    have o10 : (x.op == 10) = false := by simpa using h10
    have n2 : (x.op == 2) = false := by simpa using hv2
    have hlv := lvl_in hl
    have n11 : (x.op == 11) = false := by simp; omega
    have HE2 := Lib.hid (HEV.out.trans ((if_neg h1).trans ((if_neg hv2).trans (if_neg h10))))
    obtain ⟨bp, op, kp, csp, hkap, hkp, hRp, kap, kcp, hcsp, cp0, cp1, cp2, cp3⟩ := kid_place HK.out.1 (show 0 < x.kids.length by omega)
    have hgp : x.kids.getD 0 default = kp := Option.some.inj ((kid_get (show 0 < x.kids.length by omega)).1.symm.trans hkp)
    subst hcsp
    subst hkap
    rw [Nat.zero_mul, Nat.add_zero] at cp0 cp1 cp2 cp3
    have hki : (0 : Int) < (x.kids.length : Int) := by omega
    have HQ := Lib.hid (HIH.out 0 (by omega) _ W1 (by rw [hgp]; exact hRp) HK.out.2)
    have HR0 := Lib.hid (HRG.out 0 (by omega))
    have HK2 := Lib.hid hk2
    clear hkp hRp hgp h1 hv2 hv12 hv13 hl hkl
    generalize evalV (valV ns vs) d (x.kids.getD 0 default) = va at HQ HR0 HE2
    cases va with
    | none =>
      have HN := Lib.hid (show R = none from HE2.out)
      go_wp2_with fail
      refine HQ.out.mono ?_
      rintro e w2 ⟨he, hb2⟩
      obtain rfl : e = .returned (.tuple #[.int .i64 0, .int .i64 1]) := he
      have H2 := Lib.hid (HB.out.trans (hb2.mono HB.out.size))
      clear hb2 cp0 cp1 cp2 cp3 e0 e1 e2 e3
      go_wp2
      go_ret2
      exact ⟨by rw [HN.out]; rfl, H2.out⟩
    | some a =>
      have hra := HR0.out a rfl
      go_wp2_with fail
      refine HQ.out.mono ?_
      rintro e w2 ⟨he, hb2⟩
      obtain rfl : e = .returned (.tuple #[.int .i64 a, .int .i64 0]) := he
      have H2 := Lib.hid (And.intro (HB.out.trans (hb2.mono HB.out.size)) hb2)
      have f0 := cell_later hb2 e0
      have f3 := cell_later hb2 e3
      clear hb2 cp0 cp1 cp2 cp3 e0 e1 e2 e3
      have HE3 := Lib.hid (show R = (evalV (valV ns vs) d (x.kids.getD 1 default)).bind (fun b => arithD x.op a b) from HE2.out.trans (by show ((if 1 < x.kids.length then _ else _) : Option Int).bind _ = _; rw [if_pos (by have := HK2.out; omega)]))
      obtain ⟨bq, oq, kq, csq, hkaq, hkq, hRq, kaq, kcq, hcsq, cq0, cq1, cq2, cq3⟩ := kid_place (HK.out.1.later (exprAt_lasts d) H2.out.2) (show 1 < x.kids.length by have := HK2.out; omega)
      have hgq : x.kids.getD 1 default = kq := Option.some.inj ((kid_get (show 1 < x.kids.length by have := HK2.out; omega)).1.symm.trans hkq)
      subst hcsq
      cases hkaq
      rw [Nat.one_mul] at cq0 cq1 cq2 cq3
      have HQ1 := Lib.hid (HIH.out 1 (by have := HK2.out; omega) _ w2 (by rw [hgq]; exact hRq) ⟨HK.out.2.1.later H2.out.2, HK.out.2.2.later H2.out.2⟩)
      have HR1 := Lib.hid (HRG.out 1 (by have := HK2.out; omega))
      have hkj : (1 : Int) < (x.kids.length : Int) := by have := HK2.out; omega
      clear hkq hRq hgq
      generalize evalV (valV ns vs) d (x.kids.getD 1 default) = vb at HQ1 HR1 HE3
      cases vb with
      | none =>
        have HN := Lib.hid (show R = none from HE3.out)
        go_wp2_with fail
        refine HQ1.out.mono ?_
        rintro e w3 ⟨he, hb3⟩
        obtain rfl : e = .returned (.tuple #[.int .i64 0, .int .i64 1]) := he
        have H3 := Lib.hid (H2.out.1.trans (hb3.mono H2.out.1.size))
        clear hb3 cq0 cq1 cq2 cq3 f0 f3
        go_wp2
        go_ret2
        exact ⟨by rw [HN.out]; rfl, H3.out⟩
      | some v =>
        have hrb := HR1.out v rfl
        go_wp2_with fail
        refine HQ1.out.mono ?_
        rintro e w3 ⟨he, hb3⟩
        obtain rfl : e = .returned (.tuple #[.int .i64 v, .int .i64 0]) := he
        have H3 := Lib.hid (H2.out.1.trans (hb3.mono H2.out.1.size))
        have g0 := cell_later hb3 f0
        clear hb3 cq0 cq1 cq2 cq3 f0 f3
        have HT := Lib.hid (l5Two_any x.op a v ⟨by omega, by omega⟩ hra hrb w3)
        have HN := Lib.hid (show R = arithD x.op a v from HE3.out)
        have HPR := Lib.hid (show arithP R = arithP (arithD x.op a v) by rw [HN.out])
        generalize arithP (arithD x.op a v) = pr at HT HPR
        clear hki hkj h10
        go_wp2_with fail
        refine HT.out.mono ?_
        rintro e w4 ⟨rfl, rfl⟩
        go_wp2
        go_ret2
        exact ⟨by rw [HPR.out]; rfl, H3.out⟩
  · have o1 : (x.op == 1) = false := by simp [h10]
    have o10 : (x.op == 10) = true := by simp [h10]
    have n2 : (x.op == 2) = false := by simp [h10]
    have n11 : (x.op == 11) = false := by simp [h10]
    have h1 : ¬ x.op = 1 := by omega
    have hv2 : ¬ x.op = 2 := by omega
    have HE2 := Lib.hid (HEV.out.trans ((if_neg h1).trans ((if_neg hv2).trans (if_pos h10))))
    obtain ⟨bp, op, kp, csp, hkap, hkp, hRp, kap, kcp, hcsp, cp0, cp1, cp2, cp3⟩ := kid_place HK.out.1 (show 0 < x.kids.length by omega)
    have hgp : x.kids.getD 0 default = kp := Option.some.inj ((kid_get (show 0 < x.kids.length by omega)).1.symm.trans hkp)
    subst hcsp
    subst hkap
    rw [Nat.zero_mul, Nat.add_zero] at cp0 cp1 cp2 cp3
    have hki : (0 : Int) < (x.kids.length : Int) := by omega
    have HQ := Lib.hid (HIH.out 0 (by omega) _ W1 (by rw [hgp]; exact hRp) HK.out.2)
    have HR0 := Lib.hid (HRG.out 0 (by omega))
    have HK2 := Lib.hid hk2
    clear hkp hRp hgp h1 hv2 h10 hkl
    generalize evalV (valV ns vs) d (x.kids.getD 0 default) = va at HQ HR0 HE2
    cases va with
    | none =>
      have HN := Lib.hid (show R = none from HE2.out)
      go_wp2_with fail
      refine HQ.out.mono ?_
      rintro e w2 ⟨he, hb2⟩
      obtain rfl : e = .returned (.tuple #[.int .i64 0, .int .i64 1]) := he
      have H2 := Lib.hid (HB.out.trans (hb2.mono HB.out.size))
      clear hb2 cp0 cp1 cp2 cp3 e0 e1 e2 e3
      go_wp2
      go_ret2
      exact ⟨by rw [HN.out]; rfl, H2.out⟩
    | some a =>
      have hra := HR0.out a rfl
      go_wp2_with fail
      refine HQ.out.mono ?_
      rintro e w2 ⟨he, hb2⟩
      obtain rfl : e = .returned (.tuple #[.int .i64 a, .int .i64 0]) := he
      have H2 := Lib.hid (And.intro (HB.out.trans (hb2.mono HB.out.size)) hb2)
      have f0 := cell_later hb2 e0
      have f3 := cell_later hb2 e3
      clear hb2 cp0 cp1 cp2 cp3 e0 e1 e2 e3
      by_cases hz : a = 0
      · have HV := Lib.hid (show R = some 0 from HE2.out.trans (by show (if a = 0 then _ else _ : Option Int) = _; rw [if_pos hz]))
        subst hz
        go_wp2
        go_ret2
        exact ⟨by rw [HV.out]; rfl, H2.out.1⟩
      · have az : (a == 0) = false := by simpa using hz
        have HE3 := Lib.hid (show R = (evalV (valV ns vs) d (x.kids.getD 1 default)).bind (fun b => some (truthI (!(b == 0)))) from HE2.out.trans (by show (if a = 0 then _ else _ : Option Int) = _; rw [if_neg hz]))
        obtain ⟨bq, oq, kq, csq, hkaq, hkq, hRq, kaq, kcq, hcsq, cq0, cq1, cq2, cq3⟩ := kid_place (HK.out.1.later (exprAt_lasts d) H2.out.2) (show 1 < x.kids.length by have := HK2.out; omega)
        have hgq : x.kids.getD 1 default = kq := Option.some.inj ((kid_get (show 1 < x.kids.length by have := HK2.out; omega)).1.symm.trans hkq)
        subst hcsq
        cases hkaq
        rw [Nat.one_mul] at cq0 cq1 cq2 cq3
        have HQ1 := Lib.hid (HIH.out 1 (by have := HK2.out; omega) _ w2 (by rw [hgq]; exact hRq) ⟨HK.out.2.1.later H2.out.2, HK.out.2.2.later H2.out.2⟩)
        have HR1 := Lib.hid (HRG.out 1 (by have := HK2.out; omega))
        have hkj : (1 : Int) < (x.kids.length : Int) := by have := HK2.out; omega
        clear hkq hRq hgq hz
        generalize evalV (valV ns vs) d (x.kids.getD 1 default) = vb at HQ1 HR1 HE3
        cases vb with
        | none =>
          have HN := Lib.hid (show R = none from HE3.out)
          go_wp2_with fail
          refine HQ1.out.mono ?_
          rintro e w3 ⟨he, hb3⟩
          obtain rfl : e = .returned (.tuple #[.int .i64 0, .int .i64 1]) := he
          have H3 := Lib.hid (H2.out.1.trans (hb3.mono H2.out.1.size))
          clear hb3 cq0 cq1 cq2 cq3 f0 f3
          go_wp2
          go_ret2
          exact ⟨by rw [HN.out]; rfl, H3.out⟩
        | some v =>
          have hrb := HR1.out v rfl
          go_wp2_with fail
          refine HQ1.out.mono ?_
          rintro e w3 ⟨he, hb3⟩
          obtain rfl : e = .returned (.tuple #[.int .i64 v, .int .i64 0]) := he
          have H3 := Lib.hid (H2.out.1.trans (hb3.mono H2.out.1.size))
          have g0 := cell_later hb3 f0
          clear hb3 cq0 cq1 cq2 cq3 f0 f3
          have HN := Lib.hid (show R = some (truthI (!(v == 0))) from HE3.out)
          have HTR := Lib.hid (l5Truth_any (!(v == 0)) w3)
          have hvv : (v != 0) = !(v == 0) := rfl
          generalize (!(v == 0)) = t at HN HTR hvv
          clear hki hkj
          go_wp2_with fail
          refine HTR.out.mono ?_
          rintro e w4 ⟨rfl, rfl⟩
          go_wp2
          go_ret2
          exact ⟨by rw [HN.out]; rfl, H3.out⟩
  · have o1 : (x.op == 1) = false := by simp [h11]
    have o10 : (x.op == 10) = false := by simp [h11]
    have n2 : (x.op == 2) = false := by simp [h11]
    have n11 : (x.op == 11) = true := by simp [h11]
    have h1 : ¬ x.op = 1 := by omega
    have hv2 : ¬ x.op = 2 := by omega
    have h10 : ¬ x.op = 10 := by omega
    have HAD := Lib.hid (fun a : Int => show arithD x.op a 0 = some (truthI (a == 0)) by rw [h11]; rfl)
    have HE2 := Lib.hid (HEV.out.trans ((if_neg h1).trans ((if_neg hv2).trans (if_neg h10))))
    obtain ⟨bp, op, kp, csp, hkap, hkp, hRp, kap, kcp, hcsp, cp0, cp1, cp2, cp3⟩ := kid_place HK.out.1 (show 0 < x.kids.length by omega)
    have hgp : x.kids.getD 0 default = kp := Option.some.inj ((kid_get (show 0 < x.kids.length by omega)).1.symm.trans hkp)
    subst hcsp
    subst hkap
    rw [Nat.zero_mul, Nat.add_zero] at cp0 cp1 cp2 cp3
    have hki : (0 : Int) < (x.kids.length : Int) := by omega
    have HQ := Lib.hid (HIH.out 0 (by omega) _ W1 (by rw [hgp]; exact hRp) HK.out.2)
    have HR0 := Lib.hid (HRG.out 0 (by omega))
    have HK2 := Lib.hid hk2
    clear hkp hRp hgp h1 hv2 h10 h11 hkl
    generalize evalV (valV ns vs) d (x.kids.getD 0 default) = va at HQ HR0 HE2
    cases va with
    | none =>
      have HN := Lib.hid (show R = none from HE2.out)
      go_wp2_with fail
      refine HQ.out.mono ?_
      rintro e w2 ⟨he, hb2⟩
      obtain rfl : e = .returned (.tuple #[.int .i64 0, .int .i64 1]) := he
      have H2 := Lib.hid (HB.out.trans (hb2.mono HB.out.size))
      clear hb2 cp0 cp1 cp2 cp3 e0 e1 e2 e3
      go_wp2
      go_ret2
      exact ⟨by rw [HN.out]; rfl, H2.out⟩
    | some a =>
      have hra := HR0.out a rfl
      go_wp2_with fail
      refine HQ.out.mono ?_
      rintro e w2 ⟨he, hb2⟩
      obtain rfl : e = .returned (.tuple #[.int .i64 a, .int .i64 0]) := he
      have H2 := Lib.hid (And.intro (HB.out.trans (hb2.mono HB.out.size)) hb2)
      have f0 := cell_later hb2 e0
      have f3 := cell_later hb2 e3
      clear hb2 cp0 cp1 cp2 cp3 e0 e1 e2 e3
      have HN := Lib.hid (show R = some (truthI (a == 0)) from HE2.out.trans (by show ((if 1 < x.kids.length then _ else _) : Option Int).bind _ = _; rw [if_neg (by have := HK2.out; omega)]; exact HAD.out a))
      have HTR := Lib.hid (l5Truth_any (a == 0) w2)
      generalize truthI (a == 0) = t at HN HTR
      clear hki
      go_wp2_with fail
      refine HTR.out.mono ?_
      rintro e w4 ⟨rfl, rfl⟩
      go_wp2
      go_ret2
      exact ⟨by rw [HN.out]; rfl, H2.out.1⟩

set_option maxRecDepth 100000 in
set_option maxHeartbeats 4000000 in
theorem evalExprS_any (d : Nat) (cs : List Value) (x : ExprD) (ns : List ByteArray) (vs : List Int) (na va : Option Addr) (nn nc vn vc : Nat) (w : World) (hx : ExprAt d w cs x) (hL : anyE longP d x = false)
    (hns : StrsE w na nn ns) (hnn : nn ≤ 1099511627776) (hvs : IntsRd w va vn vs) (hvn : vn ≤ 1099511627776) :
    Calls Tryd.prog 30 #[.agg cs.toArray, .slice na nn nc, .slice va vn vc] w fun e w' => e = .returned (.tuple #[.int .i64 (evalR2 ns vs d x).1, .int .i64 (evalR2 ns vs d x).2]) ∧ Below w.heap.size w w' := by
  cases d with
  | zero => exact hx.elim
  | succ d =>
  have hx2 := hx
  obtain ⟨ka, kc, rfl, _, _⟩ := hx2
  have hba : Below w.heap.size w (w.alloc (.cells #[.int .i64 x.op, .int .i64 x.n, .string x.name, .slice ka x.kids.length kc] 29)) := (Below.refl _ _).alloc (Nat.le_refl _) _
  have hrow := heap_alloc_new w (.cells #[.int .i64 x.op, .int .i64 x.n, .string x.name, .slice ka x.kids.length kc] 29)
  have e0 := cell_of_row _ _ 0 _ _ _ hrow
  have e1 := cell_of_row _ _ 1 _ _ _ hrow
  have e2 := cell_of_row _ _ 2 _ _ _ hrow
  have e3 := cell_of_row _ _ 3 _ _ _ hrow
  simp only [List.getElem?_toArray, List.getElem?_cons_zero, List.getElem?_cons_succ] at e0 e1 e2 e3
  have HX := Lib.hid (And.intro hba (And.intro (exprAt_lasts (d + 1) _ _ _ _ hba hx) (And.intro (hns.later hba) (hvs.later hba))))
  have HQ := Lib.hid (exprValidS_any (d + 1) _ x _ HX.out.2.1 hL)
  have HLN := Lib.hid (show ns.length = nn ∧ vs.length = vn from ⟨hns.length, hvs.length⟩)
  have HSM := Lib.hid (And.intro hnn hvn)
  obtain ⟨R, hR⟩ : ∃ R, R = evalR2 ns vs (d + 1) x := ⟨_, rfl⟩
  rw [← hR]
  have HR := Lib.hid (show R = if ((sizeD nameD 6 x).isSome && (decide (vn = nn) && bytesB vs)) && !anyE (badP ns) (d + 1) x then arithP (evalV (valV ns vs) (d + 1) x) else (-1, -1) by
    rw [hR, evalR2, HLN.out.1, HLN.out.2]; rfl)
  clear hba hrow hx hL hns hvs hnn hvn hR
  go_enter Tryd.func30, Tryd.ntmps30
  go_upto_region 1 with fail
  obtain ⟨b, hb⟩ : ∃ b, b = w.heap.size := ⟨_, rfl⟩
  generalize w.alloc (.cells #[.int .i64 x.op, .int .i64 x.n, .string x.name, .slice ka x.kids.length kc] 29) = W1 at HX HQ e0 e1 e2 e3 ⊢
  rw [← hb] at e0 e1 e2 e3 ⊢
  clear hb
  cases hv : (sizeD nameD 6 x).isSome with
  | false =>
    have HN := Lib.hid (show R = (-1, -1) by rw [HR.out, hv]; rfl)
    rw [hv] at HQ
    clear hv
    go_wp2_with fail
    refine HQ.out.mono ?_
    rintro e w2 ⟨rfl, hb2⟩
    have HE := Lib.hid (HX.out.1.trans (hb2.mono HX.out.1.size))
    clear hb2
    go_wp2
    go_ret2
    exact ⟨by rw [HN.out]; rfl, HE.out⟩
  | true =>
    have HSZ := Lib.hid (show sizeD nameD 6 x ≠ none by intro h; rw [h] at hv; cases hv)
    have HR1 := Lib.hid (show R = if (decide (vn = nn) && bytesB vs) && !anyE (badP ns) (d + 1) x then arithP (evalV (valV ns vs) (d + 1) x) else (-1, -1) by rw [HR.out, hv, Bool.true_and])
    rw [hv] at HQ
    clear hv HR
    go_wp2_with fail
    refine HQ.out.mono ?_
    rintro e w2 ⟨rfl, hb2⟩
    have H2 := Lib.hid (show Below w.heap.size w w2 ∧ ExprAt (d + 1) w2 [.int .i64 x.op, .int .i64 x.n, .string x.name, .slice ka x.kids.length kc] x ∧ StrsE w2 na nn ns ∧ IntsRd w2 va vn vs from
      ⟨HX.out.1.trans (hb2.mono HX.out.1.size), exprAt_lasts (d + 1) _ _ _ _ hb2 HX.out.2.1, HX.out.2.2.1.later hb2, HX.out.2.2.2.later hb2⟩)
    have f0 := cell_later hb2 e0
    have f1 := cell_later hb2 e1
    have f2 := cell_later hb2 e2
    have f3 := cell_later hb2 e3
    have HP := Lib.hid (l5Plain_any ns na nn nc (by have := HSM.out.1; unfold maxLen; omega) (d + 1) _ x w2 H2.out.2.1 H2.out.2.2.1)
    clear hb2 e0 e1 e2 e3 HX HQ
    cases ha : anyE (badP ns) (d + 1) x with
    | true =>
      have HN := Lib.hid (show R = (-1, -1) by rw [HR1.out, ha]; simp)
      rw [ha] at HP
      clear ha
      go_wp2_with fail
      refine HP.out.mono ?_
      rintro e w3 ⟨rfl, hb3⟩
      have HE := Lib.hid (H2.out.1.trans (hb3.mono H2.out.1.size))
      clear hb3 f0 f1 f2 f3
      go_wp2
      go_ret2
      exact ⟨by rw [HN.out]; rfl, HE.out⟩
    | false =>
      have HA := Lib.hid ha
      have HR2 := Lib.hid (show R = if decide (vn = nn) && bytesB vs then arithP (evalV (valV ns vs) (d + 1) x) else (-1, -1) by rw [HR1.out, ha, Bool.not_false, Bool.and_true])
      rw [ha] at HP
      clear ha HR1
      go_wp2_with fail
      refine HP.out.mono ?_
      rintro e w3 ⟨rfl, hb3⟩
      have H3 := Lib.hid (show Below w.heap.size w w3 ∧ ExprAt (d + 1) w3 [.int .i64 x.op, .int .i64 x.n, .string x.name, .slice ka x.kids.length kc] x ∧ StrsE w3 na nn ns ∧ IntsRd w3 va vn vs from
        ⟨H2.out.1.trans (hb3.mono H2.out.1.size), exprAt_lasts (d + 1) _ _ _ _ hb3 H2.out.2.1, H2.out.2.2.1.later hb3, H2.out.2.2.2.later hb3⟩)
      have g0 := cell_later hb3 f0
      have g1 := cell_later hb3 f1
      have g2 := cell_later hb3 f2
      have g3 := cell_later hb3 f3
      clear hb3 f0 f1 f2 f3
      by_cases hl : vn = nn
      · subst hl
        have hnl : ((vn : Int) != (vn : Int)) = false := by simp
        have HV := Lib.hid (l5Values_any va vn vc vs w3 H3.out.2.2.2 HSM.out.2)
        cases hb : bytesB vs with
        | false =>
          have HN := Lib.hid (show R = (-1, -1) by rw [HR2.out, hb]; simp)
          rw [hb] at HV
          clear hb
          go_wp2_with fail
          refine HV.out.mono ?_
          rintro e w4 ⟨rfl, rfl⟩
          clear g0 g1 g2 g3
          go_wp2
          go_ret2
          exact ⟨by rw [HN.out]; rfl, H3.out.1⟩
        | true =>
          have HN := Lib.hid (show R = arithP (evalV (valV ns vs) (d + 1) x) by rw [HR2.out, hb]; simp)
          have HEV := Lib.hid (l5Eval_any ns vs na va vn nc vc HSM.out.2 HLN.out hb (d + 1) 6 _ x w3 H3.out.2.1 HSZ.out HA.out H3.out.2.2)
          rw [← HN.out] at HEV
          rw [hb] at HV
          clear hb
          obtain ⟨r1, r2⟩ := R
          go_wp2_with fail
          refine HV.out.mono ?_
          rintro e w4 ⟨rfl, rfl⟩
          go_wp2_with fail
          refine HEV.out.mono ?_
          rintro e w5 ⟨rfl, hb5⟩
          have HE := Lib.hid (H3.out.1.trans (hb5.mono H3.out.1.size))
          clear hb5 g0 g1 g2 g3
          go_wp2
          go_ret2
          exact ⟨rfl, HE.out⟩
      · have HN := Lib.hid (show R = (-1, -1) by rw [HR2.out, decide_eq_false hl]; rfl)
        have hnl : ((nn : Int) != (vn : Int)) = true := by simp; omega
        clear hl
        go_wp2
        go_ret2
        exact ⟨by rw [HN.out]; rfl, H3.out.1⟩

end Go.Proofs.YtccfbnhlhjlmgaaDoor
