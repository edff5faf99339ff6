/-
  Whether a program is valid, how many statements it has and how deep they are nested (the program's).
-/
import Derived.Test.YtccdmgncjlpebaaDoorVj

namespace Go.Proofs.YtccdmgncjlpebaaDoor
open Go.RowKit
set_option linter.unusedVariables false

theorem run_loadInt (g : Nat) (n : Int) (w : World) (h : w.cell? ⟨g, 0, none⟩ = some (.int .i64 n)) : (loadVar 3 ⟨g, 0, none⟩).run Tryd.prog w = .ok (.int .i64 n) w := by
  have h1 : (isAgg 3).run Tryd.prog w = .ok false w := by kernel_rfl
  simp only [loadVar, Sem.run_bind, h1, Result.andThen_ok]
  simp [h]
theorem results_ints {fn : Func} {p q : Tmp} (h : fn.results = #[.cell p 3, .cell q 3]) (tmps : Array Value) (w : World) (g1 g2 : Nat) (n m : Int)
    (hp : tmps.getD p undef = .pointer (some ⟨g1, 0, none⟩)) (hq : tmps.getD q undef = .pointer (some ⟨g2, 0, none⟩)) (h1 : w.cell? ⟨g1, 0, none⟩ = some (.int .i64 n)) (h2 : w.cell? ⟨g2, 0, none⟩ = some (.int .i64 m)) :
    (results fn tmps).run Tryd.prog w = .ok (.tuple #[.int .i64 n, .int .i64 m]) w := by
  have hp' : tmps[p]?.getD undef = .pointer (some ⟨g1, 0, none⟩) := by simpa using hp
  have hq' : tmps[q]?.getD undef = .pointer (some ⟨g2, 0, none⟩) := by simpa using hq
  simp only [results, h]
  simp [hp', hq', asAddr, run_loadInt _ _ _ h1, run_loadInt _ _ _ h2]

theorem blocks3' (w : World) (P Q R : Obj) : (((w.alloc P).alloc Q).alloc R).heap[w.heap.size]? = some P ∧ (((w.alloc P).alloc Q).alloc R).heap[w.heap.size + 1]? = some Q ∧ (((w.alloc P).alloc Q).alloc R).heap[w.heap.size + 2]? = some R ∧ Below w.heap.size w (((w.alloc P).alloc Q).alloc R) ∧ (((w.alloc P).alloc Q).alloc R).heap.size = w.heap.size + 3 := by
  obtain ⟨ht, hs, hb⟩ := three_blocks w P Q R
  exact ⟨ht.p, ht.z, ht.u, hb, hs⟩
set_option maxRecDepth 100000 in
set_option maxHeartbeats 4000000 in
theorem measure_any (S : Nat → Prop) (a : Option Addr) (c : Nat) (p : List FnD) (w : World) (h : ListK 3 (FnP 4) S w a p) (hl : p.length ≤ 100) :
    Calls Tryd.prog 20 #[.agg #[.slice a p.length c]] w fun e w' => e = .returned (.tuple #[.int .i64 (cntP p : Nat), .int .i64 (nestP p : Nat)]) ∧ Below w.heap.size w w' := by
  obtain ⟨t1, t2, t3, t4, t5⟩ := blocks3' w (.cells #[.slice a p.length c] 25) (.cells #[.int .i64 0] 3) (.cells #[.int .i64 0] 3)
  have HB := Lib.hid (And.intro t1 (And.intro t4 (And.intro ((h.mono (fnP_stays 4) (S' := fun b => b < w.heap.size) (fun k hk _ => hk)).below (fnP_stays 4) t4) (And.intro (cntP_bound h hl) t5))))
  have HM := Lib.hid (show MeasSt w.heap.size (w.heap.size + 1) (w.heap.size + 1 + 1) 0 0 (((w.alloc (.cells #[.slice a p.length c] 25)).alloc (.cells #[.int .i64 0] 3)).alloc (.cells #[.int .i64 0] 3)) from ⟨⟨by omega, by omega, by omega⟩, t2, t3⟩)
  have hl2 : p.length ≤ 9223372036854775807 := by omega
  clear h t1 t2 t3 t4 t5
  obtain ⟨N, hN⟩ : ∃ n, n = cntP p := ⟨_, rfl⟩
  obtain ⟨M, hM⟩ : ∃ n, n = nestP p := ⟨_, rfl⟩
  rw [← hN, ← hM]
  have HNM := Lib.hid (And.intro hN hM)
  clear hN hM
  go_enter Tryd.func20, Tryd.ntmps20
  go_upto_region 1 with fail
  generalize ((w.alloc (.cells #[.slice a p.length c] 25)).alloc (.cells #[.int .i64 0] 3)).alloc (.cells #[.int .i64 0] 3) = W1 at HB HM ⊢
  obtain ⟨cb, hcb⟩ : ∃ b, b = w.heap.size + 1 := ⟨_, rfl⟩
  obtain ⟨db, hdb⟩ : ∃ b, b = w.heap.size + 1 + 1 := ⟨_, rfl⟩
  rw [← hdb, ← hcb] at HM ⊢
  have HCD := Lib.hid (And.intro hcb hdb)
  clear hcb hdb
  have p0 := cell_of_row _ _ 0 _ _ _ HB.out.1
  simp only [List.getElem?_toArray, List.getElem?_cons_zero] at p0
  have hen : ∀ v u W, (callFunc 37 (#[v, u] ++ #[.pointer (some ⟨cb, 0, none⟩), .pointer (some ⟨db, 0, none⟩)])).run Tryd.prog W = .ok (.enter 37 (#[v, u] ++ #[.pointer (some ⟨cb, 0, none⟩), .pointer (some ⟨db, 0, none⟩)])) W := fun v u W => by kernel_rfl
  go_wp2_with fail
  go_loopg [9] p.length (fun G i wr => ∃ (j : Nat), j + G = p.length ∧ i = .int .i64 j ∧ Hid (MeasSt w.heap.size cb db (sumN (fun f => sumN (cntS 4) f.body) (p.take j)) (maxN (fun f => maxN (nestS 4) f.body) (p.take j)) wr ∧ TurnM cb db W1 wr))
  case atStart => exact ⟨0, by omega, rfl, Lib.hid ⟨by simpa [sumN, maxN] using HM.out, TurnM.refl _ _ _⟩⟩
  case round =>
    obtain ⟨j, hj, rfl, HG⟩ := hrel
    clear HM p0
    by_cases hlt : j < p.length
    · have hji : (j : Int) < (p.length : Int) := by omega
      obtain ⟨b, off, x, pa, pc, ba, bc, rfl, hx, hF, c0, c1, c2⟩ := fn_place (HB.out.2.2.1.turned (fnP_stays 4) HG.out.2 (fun b hb h1 h2 => by have := HG.out.1.lt; have h3 : b < w.heap.size := h1; have := HB.out.2.2.2.2; omega)) hlt
      obtain ⟨pa', pc', ba', bc', he, hb, _, hBd⟩ := hF
      cases he
      obtain ⟨name, params, body⟩ := x
      simp only at c0 c1 c2 hb hBd
      have hsum : sumN (fun f => sumN (cntS 4) f.body) (p.take (j + 1)) = sumN (fun f => sumN (cntS 4) f.body) (p.take j) + sumN (cntS 4) body := sumN_take (f := fun f : FnD => sumN (cntS 4) f.body) hx
      have hmax : maxN (fun f => maxN (nestS 4) f.body) (p.take (j + 1)) = max (maxN (fun f => maxN (nestS 4) f.body) (p.take j)) (deepN 4 1 body) := by
        have h1 := maxN_take (f := fun f : FnD => maxN (nestS 4) f.body) hx
        rw [h1]
        have h2 : deepN 4 1 body = maxN (nestS 4) body := by unfold deepN; congr 1; funext s; omega
        rw [h2]
      have hbd := HB.out.2.2.2.1 (j + 1)
      have hmd : maxN (fun f => maxN (nestS 4) f.body) (p.take j) ≤ 4 := maxN_le.2 fun f _ => maxN_le.2 fun s _ => nest_le 4 s
      obtain ⟨n, hn⟩ : ∃ n, n = sumN (fun f : FnD => sumN (cntS 4) f.body) (p.take j) := ⟨_, rfl⟩
      obtain ⟨m, hm⟩ : ∃ n, n = maxN (fun f : FnD => maxN (nestS 4) f.body) (p.take j) := ⟨_, rfl⟩
      have hG := HG.out
      rw [← hn, ← hm] at hG
      rw [← hn] at hsum
      rw [← hm] at hmax hmd
      have hba : Below wr.heap.size wr (wr.alloc (.cells #[.string name, .slice pa params.length pc, .slice ba body.length bc] 32)) := (Below.refl _ _).alloc (Nat.le_refl _) _
      have hrow := heap_alloc_new wr (.cells #[.string name, .slice pa params.length pc, .slice ba body.length bc] 32)
      have HT := Lib.hid (hG.2.trans (TurnM.below hba))
      have HFIN := Lib.hid (And.intro hsum hmax)
      have HC := Lib.hid (stmts_any 4 w.heap.size cb db n m 1 ba bc body _ (hBd.below (stmtP_stays 4) hba) hb.2.2 (hG.1.later hba) (by omega) (by omega) (by omega) (by omega))
      have e2 := cell_of_row _ _ 2 _ _ _ hrow
      have e1 := cell_of_row _ _ 1 _ _ _ hrow
      have e0 := cell_of_row _ _ 0 _ _ _ hrow
      simp only [List.getElem?_toArray, List.getElem?_cons_zero, List.getElem?_cons_succ] at e0 e1 e2
      clear hx hb hBd hsum hmax hbd hmd hn hm hG HG hba hrow
      go_wp2_with fail
      refine HC.out.mono ?_
      rintro e w5 ⟨rfl, hM5, hT5⟩
      have HM5 := Lib.hid (show MeasSt w.heap.size cb db (sumN (fun f => sumN (cntS 4) f.body) (p.take (j + 1))) (maxN (fun f => maxN (nestS 4) f.body) (p.take (j + 1))) w5 ∧ TurnM cb db W1 w5 by
        rw [HFIN.out.1, HFIN.out.2]
        exact ⟨hM5, HT.out.trans hT5⟩)
      clear hM5 hT5 c0 c1 c2 e0 e1 e2 HC
      go_wp2
      go_roundg (gk - 1)
      case measure => omega
      case rel => exact ⟨j + 1, by omega, by go_num, HM5⟩
    · obtain rfl : j = p.length := by omega
      have hG := HG.out
      rw [List.take_length] at hG
      have hBW : Below w.heap.size w wr := by
        have ht : Turned (fun b => b = cb ∨ b = db ∨ W1.heap.size ≤ b) W1 wr := hG.2
        exact HB.out.2.1.trans (ht.below (B := w.heap.size) HB.out.2.1.size (fun b hb => by have := HCD.out; have := HB.out.2.1.size; omega))
      have hG1 : MeasSt w.heap.size cb db N M wr := by rw [HNM.out.1, HNM.out.2]; exact hG.1
      have c0 := cell_of_row _ _ 0 _ _ _ hG1.c
      have d0 := cell_of_row _ _ 0 _ _ _ hG1.d
      have cf := frozen_of_row _ _ 0 _ _ hG1.c
      have df := frozen_of_row _ _ 0 _ _ hG1.d
      simp only [List.getElem?_toArray, List.getElem?_cons_zero] at c0 d0
      have HG1 := Lib.hid (And.intro hG1 hBW)
      have hne : ¬ cb = db := hG1.lt.2.2
      have hne2 : ¬ db = cb := fun h => hne h.symm
      clear hG HG hBW hG1 hen
      have HFW := Lib.hid (show (((wr.setCell ⟨cb, 0, none⟩ (.int .i64 (N : Int))).setCell ⟨db, 0, none⟩ (.int .i64 (M : Int))).drew).cell? ⟨cb, 0, none⟩ = some (.int .i64 (N : Int)) ∧ (((wr.setCell ⟨cb, 0, none⟩ (.int .i64 (N : Int))).setCell ⟨db, 0, none⟩ (.int .i64 (M : Int))).drew).cell? ⟨db, 0, none⟩ = some (.int .i64 (M : Int)) ∧ Below w.heap.size w (((wr.setCell ⟨cb, 0, none⟩ (.int .i64 (N : Int))).setCell ⟨db, 0, none⟩ (.int .i64 (M : Int))).drew) by
        have g1 := HG1.out.1.putC N
        have g2 := g1.1.putD M
        have g3 : Below ((wr.setCell ⟨cb, 0, none⟩ (.int .i64 (N : Int))).setCell ⟨db, 0, none⟩ (.int .i64 (M : Int))).heap.size ((wr.setCell ⟨cb, 0, none⟩ (.int .i64 (N : Int))).setCell ⟨db, 0, none⟩ (.int .i64 (M : Int))) (((wr.setCell ⟨cb, 0, none⟩ (.int .i64 (N : Int))).setCell ⟨db, 0, none⟩ (.int .i64 (M : Int))).drew) := (Below.refl _ _).drew
        have g4 := g2.1.later g3
        have k1 := cell_of_row _ _ 0 _ _ _ g4.c
        have k2 := cell_of_row _ _ 0 _ _ _ g4.d
        have hT : TurnM cb db wr _ := g1.2.trans g2.2
        have hT' : Turned (fun b => b = cb ∨ b = db ∨ wr.heap.size ≤ b) wr _ := hT
        have hsz := HG1.out.2.size
        have hB := HG1.out.2.trans (hT'.below (B := w.heap.size) hsz (fun b hb => by have := HCD.out; omega))
        exact ⟨by simpa using k1, by simpa using k2, hB.trans (g3.mono hB.size)⟩)
      go_upto_region 6 with fail
      go_region_law (fail)
      all_goals
        clear c0 d0 cf df hne hne2
        generalize ((wr.setCell ⟨cb, 0, none⟩ (.int .i64 (N : Int))).setCell ⟨db, 0, none⟩ (.int .i64 (M : Int))).drew = W9 at HFW ⊢
        go_wp2
        refine bodyPost_ret (results_ints rfl _ _ cb db N M rfl rfl HFW.out.1 HFW.out.2.1) rfl ?_
        exact ⟨rfl, HFW.out.2.2⟩

theorem progValidC_any (s : ByteArray) (w : World) (hK : KeysAt w) : Calls Tryd.prog 18 (#[.string s] ++ #[]) w fun e w' => e = .returned (.bool (!nameD s)) ∧ Below w.heap.size w w' := by
  have HN := Lib.hid (isNameI_any s w hK)
  clear hK
  show Calls _ _ #[.string s] w _
  go_enter Tryd.func18, Tryd.ntmps18
  go_wp2_with fail
  refine HN.out.mono ?_
  rintro e w2 ⟨rfl, hb2⟩
  have HB := Lib.hid hb2
  clear hb2
  go_wp2
  go_ret
  exact ⟨rfl, HB.out⟩
set_option maxRecDepth 100000 in
set_option maxHeartbeats 4000000 in
theorem progValidI_any (D : Nat) (S : Nat → Prop) (a : Option Addr) (c : Nat) (p : List FnD) (w : World) (hO : OpsAt w) (hK : KeysAt w) (h : ListK 3 (FnP D) S w a p) (hl : p.length ≤ 100) :
    Calls Tryd.prog 7 #[.agg #[.slice a p.length c]] w fun e w' => e = .returned (.bool (progB p)) ∧ Below w.heap.size w w' := by
  obtain ⟨R, hR⟩ : ∃ R, R = progB p := ⟨_, rfl⟩
  rw [← hR]
  have HR := Lib.hid (show R = (decide (1 ≤ p.length ∧ p.length ≤ 4) && p.all fnB && decide (cntP p ≤ 40)) from hR)
  have hba : Below w.heap.size w (w.alloc (.cells #[.slice a p.length c] 25)) := (Below.refl _ _).alloc (Nat.le_refl _) _
  have HB := Lib.hid (And.intro hba (And.intro (h.below (fnP_stays D) hba) (And.intro hl (And.intro (hO.later hba) (hK.later hba)))))
  have hrow := heap_alloc_new w (.cells #[.slice a p.length c] 25)
  have hl2 : p.length ≤ 9223372036854775807 := by omega
  clear hba h hR hO hK
  go_enter Tryd.func7, Tryd.ntmps7
  go_upto_region 1 with fail
  obtain ⟨pb, hpb⟩ : ∃ b, b = w.heap.size := ⟨_, rfl⟩
  rw [← hpb] at hrow ⊢
  generalize w.alloc (.cells #[.slice a p.length c] 25) = W1 at hrow HB ⊢
  have HBW := Lib.hid (show Below w.heap.size w W1 from HB.out.1)
  clear hpb
  have p0 := cell_of_row _ _ 0 _ _ _ hrow
  simp only [List.getElem?_toArray, List.getElem?_cons_zero] at p0
  clear hrow
  by_cases hin : 1 ≤ p.length ∧ p.length ≤ 4
  · have HIN := Lib.hid (show inE 1 (p.length : Int) 4 = true by simp [inE]; omega)
    have HIP := Lib.hid hin
    clear hin
    go_wp2_with fail
    refine (withinE_is HIN.out _).mono ?_
    rintro e w2 ⟨rfl, rfl⟩
    go_wp2_with fail
    go_loopg [15] p.length (fun G i wr => ∃ (j : Nat), j + G = p.length ∧ i = .int .i64 j ∧ Hid (Below w2.heap.size w2 wr ∧ (p.take j).all fnB = true))
    case atStart => exact ⟨0, by omega, rfl, Lib.hid ⟨Below.refl _ _, rfl⟩⟩
    case round =>
      obtain ⟨j, hj, rfl, HG⟩ := hrel
      have q0 := cell_later HG.out.1 p0
      clear p0
      by_cases hlt : j < p.length
      · have hji : (j : Int) < (p.length : Int) := by omega
        obtain ⟨b, off, x, pa, pc, ba, bc, rfl, hx, hF, c0, c1, c2⟩ := fn_place (HB.out.2.1.below (fnP_stays D) HG.out.1) hlt
        obtain ⟨pa', pc', ba', bc', he, hb, hPd, hBd⟩ := hF
        cases he
        have hba : Below wr.heap.size wr (wr.alloc (.cells #[.string x.name, .slice pa x.params.length pc, .slice ba x.body.length bc] 32)) := (Below.refl _ _).alloc (Nat.le_refl _) _
        have hrow := heap_alloc_new wr (.cells #[.string x.name, .slice pa x.params.length pc, .slice ba x.body.length bc] 32)
        have e0 := cell_of_row _ _ 0 _ _ _ hrow
        have e1 := cell_of_row _ _ 1 _ _ _ hrow
        have e2 := cell_of_row _ _ 2 _ _ _ hrow
        simp only [List.getElem?_toArray, List.getElem?_cons_zero, List.getElem?_cons_succ] at e0 e1 e2
        have hbW := HG.out.1.trans (hba.mono HG.out.1.size)
        have HX := Lib.hid hx
        have HPB := Lib.hid (And.intro (hPd.below strP_stays hba) (And.intro (hBd.below (stmtP_stays D) hba) hb))
        have HBW2 := Lib.hid hbW
        have HOK := Lib.hid (And.intro (HB.out.2.2.2.1.later hbW) (HB.out.2.2.2.2.later hbW))
        have HNM := Lib.hid (isNameI_any x.name _ HOK.out.2)
        have HFB := Lib.hid (show fnB x = (nameD x.name && decide (x.params.length ≤ 3) && x.params.all nameD && x.body.all (stmtB 4)) from rfl)
        have HRF := Lib.hid (fun hv : fnB x = false => (show false = R by rw [HR.out, all_not HX.out hv]; simp))
        clear hx hb hPd hBd hba hrow hbW
        go_upto_region 6 with fail
        clear c0 c1 c2
        generalize wr.alloc (.cells #[.string x.name, .slice pa x.params.length pc, .slice ba x.body.length bc] 32) = W3 at HPB HBW2 HOK HNM e0 e1 e2 ⊢
        cases hnm : nameD x.name with
        | false =>
          rw [hnm] at HNM
          have HF := Lib.hid (HRF.out (by rw [HFB.out, hnm]; rfl))
          clear hnm
          go_wp2_with fail
          refine HNM.out.mono ?_
          rintro e w5 ⟨rfl, hb5⟩
          have HB5 := Lib.hid (HBW.out.trans ((HBW2.out.trans (hb5.mono HBW2.out.size)).mono HBW.out.size))
          clear hb5 e0 e1 e2
          go_wp2
          go_ret
          exact ⟨ret_bool HF.out, HB5.out⟩
        | true =>
          rw [hnm] at HNM
          by_cases h3 : x.params.length ≤ 3
          · have h3i : ¬ (3 : Int) < (x.params.length : Int) := by omega
            go_wp2_with fail
            refine HNM.out.mono ?_
            rintro e w5 ⟨rfl, hb5⟩
            have HB5 := Lib.hid hb5
            have k1 := cell_later hb5 e1
            have k2 := cell_later hb5 e2
            have HHT := Lib.hid (hasT_any 18 #[] S (fun s => !nameD s) pa pc x.params w5 (HPB.out.1.below strP_stays hb5) (by have := HPB.out.2.2; omega) ⟨fun v W => by kernel_rfl, fun s _ t W hW hs => by
              obtain ⟨rfl, _⟩ := hs
              exact progValidC_any t W (HOK.out.2.later (hb5.trans (hW.mono hb5.size)))⟩)
            have hall : x.params.any (fun s => !nameD s) = !(x.params.all nameD) := by rw [Bool.eq_iff_iff]; simp
            rw [hall] at HHT
            clear hb5 e0 e1 e2 hall
            cases hpa : x.params.all nameD with
            | false =>
              rw [hpa] at HHT
              have HF := Lib.hid (HRF.out (by rw [HFB.out, hpa]; simp))
              clear hpa
              go_wp2_with fail
              refine HHT.out.mono ?_
              rintro e w6 ⟨rfl, hb6⟩
              have HB6 := Lib.hid (HBW.out.trans ((HBW2.out.trans ((HB5.out.trans (hb6.mono HB5.out.size)).mono HBW2.out.size)).mono HBW.out.size))
              clear hb6 k1 k2
              go_wp2
              go_ret
              exact ⟨ret_bool HF.out, HB6.out⟩
            | true =>
              rw [hpa] at HHT
              go_wp2_with fail
              refine HHT.out.mono ?_
              rintro e w6 ⟨rfl, hb6⟩
              have hb56 := HB5.out.trans (hb6.mono HB5.out.size)
              have HB6 := Lib.hid hb56
              have l2 := cell_later hb6 k2
              have HBK := Lib.hid (blockOk_any D (stmtOk_any D) 4 S ba bc x.body w6 (Nat.le_refl 4) (HOK.out.1.later hb56) (HOK.out.2.later hb56) (HPB.out.2.1.below (stmtP_stays D) hb56) HPB.out.2.2.2.2)
              clear hb6 hb56 k1 k2
              cases hbo : x.body.all (stmtB 4) with
              | false =>
                rw [hbo] at HBK
                have HF := Lib.hid (HRF.out (by rw [HFB.out, hbo]; simp))
                clear hbo
                go_wp2_with fail
                refine HBK.out.mono ?_
                rintro e w7 ⟨rfl, hb7⟩
                have HB7 := Lib.hid (HBW.out.trans ((HBW2.out.trans ((HB6.out.trans (hb7.mono HB6.out.size)).mono HBW2.out.size)).mono HBW.out.size))
                clear hb7 l2
                go_wp2
                go_ret
                exact ⟨ret_bool HF.out, HB7.out⟩
              | true =>
                rw [hbo] at HBK
                have HT := Lib.hid (show (p.take (j + 1)).all fnB = true by rw [all_take HX.out, HG.out.2, HFB.out, hnm, hpa, hbo, decide_eq_true h3]; rfl)
                clear hbo
                go_wp2_with fail
                refine HBK.out.mono ?_
                rintro e w7 ⟨rfl, hb7⟩
                have HB7 := Lib.hid (HBW2.out.trans ((HB6.out.trans (hb7.mono HB6.out.size)).mono HBW2.out.size))
                clear hb7 l2
                go_wp2
                go_roundg (gk - 1)
                case measure => omega
                case rel => exact ⟨j + 1, by omega, by go_num, Lib.hid ⟨HB7.out, HT.out⟩⟩
          · have h3i : (3 : Int) < (x.params.length : Int) := by omega
            have h3n : 3 < x.params.length := by omega
            have HF := Lib.hid (HRF.out (by rw [HFB.out, decide_eq_false h3]; simp))
            go_wp2_with fail
            refine HNM.out.mono ?_
            rintro e w5 ⟨rfl, hb5⟩
            have HB5 := Lib.hid (HBW.out.trans ((HBW2.out.trans (hb5.mono HBW2.out.size)).mono HBW.out.size))
            have k1 := cell_later hb5 e1
            clear hb5 e0 e1 e2
            go_wp2
            go_ret
            exact ⟨ret_bool HF.out, HB5.out⟩
      · obtain rfl : j = p.length := by omega
        have HALL := Lib.hid (show p.all fnB = true by have h1 := HG.out.2; rw [List.take_length] at h1; exact h1)
        have HP4 := Lib.hid (progP_fit HALL.out (HB.out.2.1.below (fnP_stays D) HG.out.1))
        have HC := Lib.hid (measure_any S a c p wr HP4.out HB.out.2.2.1)
        have HBr := Lib.hid (HBW.out.trans (HG.out.1.mono HBW.out.size))
        obtain ⟨n, hn⟩ : ∃ n, n = cntP p := ⟨_, rfl⟩
        rw [← hn] at HC
        have HF := Lib.hid (show decide ((n : Int) ≤ 40) = R by
          rw [HR.out, HALL.out, decide_eq_true HIP.out, ← hn, Bool.eq_iff_iff]
          simp only [decide_eq_true_eq, Bool.and_eq_true, true_and]
          omega)
        clear hn
        by_cases h40 : n ≤ 40
        · have h40i : (n : Int) ≤ 40 := by omega
          have HF2 := Lib.hid (show true = R by rw [← HF.out, decide_eq_true h40i])
          go_wp2_with fail
          refine HC.out.mono ?_
          rintro e w5 ⟨rfl, hb5⟩
          have HB5 := Lib.hid (HBr.out.trans (hb5.mono HBr.out.size))
          clear hb5 q0
          go_wp2
          go_ret
          exact ⟨ret_bool HF2.out, HB5.out⟩
        · have h40i : ¬ (n : Int) ≤ 40 := by omega
          go_wp2_with fail
          refine HC.out.mono ?_
          rintro e w5 ⟨rfl, hb5⟩
          have HB5 := Lib.hid (HBr.out.trans (hb5.mono HBr.out.size))
          clear hb5 q0
          go_wp2
          go_ret
          exact ⟨ret_bool HF.out, HB5.out⟩
  · have HIN := Lib.hid (show inE 1 (p.length : Int) 4 = false by rw [inE, Bool.and_eq_false_iff, decide_eq_false_iff_not, decide_eq_false_iff_not]; omega)
    have HF := Lib.hid (show false = R by rw [HR.out, decide_eq_false hin]; rfl)
    clear hin
    go_wp2_with fail
    refine (withinE_is HIN.out _).mono ?_
    rintro e w2 ⟨rfl, rfl⟩
    clear p0
    go_wp2
    go_ret
    exact ⟨ret_bool HF.out, HBW.out⟩

end Go.Proofs.YtccdmgncjlpebaaDoor
