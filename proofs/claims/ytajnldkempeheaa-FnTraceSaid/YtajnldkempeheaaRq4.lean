/-
  The reference's run of a unit on the heap: a call; an instruction, whatever it is. (printed by mkrq4.py)
-/
import Derived.Test.YtajnldkempeheaaRq3

namespace Go.Proofs.Ytajnldkempeheaa
open Go.RowKit
set_option linter.unusedVariables false
set_option linter.unusedSimpArgs false

/-- What is asked of a run of the codes ahead of kmax. -/
def CodeC (w0 : World) (us : List CodeD) (ua : Option Addr) (uc rb cb d kmax : Nat) : Prop :=
  ∀ (k : Nat) (c : CodeD) (inp : List Int) (ia : Option Addr) (ic : Nat) (D : Nat → Prop) (sv tv : Value) (w : World) (s : RunS), k < kmax → us[k]? = some c → (inp.length : Int) = c.params → IntsRd w ia inp.length inp → Byts inp →
    SSt w0 ua us.length uc rb cb D sv tv w s → s.fin = none → Good s → (k + 1 = us.length → s.trace.length + s.left ≤ 60000) →
    Calls Try.prog 36 #[.pointer (some ⟨rb, 0, none⟩), .int .i64 (k : Int), .slice ia inp.length ic] w fun e w' => e = .returned (.int .i64 (codeRun doD predsC us d k inp s).1) ∧
      ∃ D' sv' tv', SSt w0 ua us.length uc rb cb D' sv' tv' w' (codeRun doD predsC us d k inp s).2 ∧ Step D w D' w'
section
variable {w0 w : World} {us : List CodeD} {ua : Option Addr} {uc rb cb gb n d kk : Nat} {D : Nat → Prop} {sv tv : Value} {s : RunS} {regs : List Int}
set_option maxRecDepth 100000 in
set_option maxHeartbeats 4000000 in
theorem insS_call {tq : Int} {ac kn : Nat} {aa : Option Addr} {args : List Int} {c' : CodeD} (hV : UnitV us) (hC : CodeC w0 us ua uc rb cb d kk) (hkk : kk < us.length) (hkn : kn < kk) (hc' : us[kn]? = some c') (hpar : (args.length : Int) = c'.params) (htq : 0 ≤ tq ∧ tq < n)
    (hargs : ∀ r ∈ args, 0 ≤ r ∧ r < (n : Int)) (hA : IntsRd w0 aa args.length args) (hnl : n ≤ 300) (h : SSt w0 ua us.length uc rb cb D sv tv w s) (hr : RgSt w0.heap.size gb n D w regs) (hs : Good s) (hf : s.fin = none) :
    Calls Try.prog 54 #[.pointer (some ⟨rb, 0, none⟩), .agg #[.int .i64 14, .int .i64 tq, .slice aa args.length ac, .int .i64 (kn : Int)], .slice (some ⟨gb, 0, none⟩) n n] w fun e w' => e = .returned (.tuple #[]) ∧ InsPost w0 ua us.length uc rb cb gb n D w (insRun doD (codeRun doD predsC us d) ⟨14, tq, args, (kn : Int)⟩ regs s) w' := by
  have hI : insRun doD (codeRun doD predsC us d) ⟨14, tq, args, (kn : Int)⟩ regs s = (setI regs tq (codeRun doD predsC us d kn (args.map (atI regs)) s).1, (codeRun doD predsC us d kn (args.map (atI regs)) s).2) := by
    unfold insRun; rw [insDo_call rfl]; rfl
  rw [hI]
  clear hI
  have hp3 := (hV.code kn c' hc').params
  have hal : args.length ≤ 3 := by omega
  obtain ⟨jt, rfl⟩ : ∃ j : Nat, tq = (j : Int) := ⟨tq.toNat, by omega⟩
  have hba : Below w.heap.size w (w.alloc (.cells #[.int .i64 14, .int .i64 (jt : Int), .slice aa args.length ac, .int .i64 (kn : Int)] 83)) := (Below.refl _ _).alloc (Nat.le_refl _) _
  have hrow := heap_alloc_new w (.cells #[.int .i64 14, .int .i64 (jt : Int), .slice aa args.length ac, .int .i64 (kn : Int)] 83)
  have hS1 := h.later hba
  have hR1 := hr.later hba
  have hA1 := (hA.later h.base).later hba
  have HNB := Lib.hid (fun hd : D w.heap.size => Nat.lt_irrefl _ (h.hi _ hd))
  have HGB := Lib.hid (And.intro hr.lt (And.intro h.base.size hr.out))
  have HBY := Lib.hid hr.byts
  have HG := Lib.hid (good_code (preds := predsC) doD_ok us hV.numOk d kn (args.map (atI regs)) s (fun v hv => by
    obtain ⟨r, -, rfl⟩ := List.mem_map.1 hv
    exact hr.byts.at _) hs)
  have jl : (jt : Int) < (n : Int) := htq.2
  have HX := Lib.hid (And.intro hC (And.intro hc' (And.intro hpar (And.intro hs hf))))
  have HPU := Lib.hid (fun W => l8Pure_any 14 W)
  rw [show inE 1 14 10 = false from rfl] at HPU
  have HI := Lib.hid hargs
  have HKK := Lib.hid (And.intro hkk hkn)
  clear h hr hC hc' hpar hs hf hA hargs hp3 htq hV hkk hkn hnl
  generalize hW : (w.alloc (.cells #[.int .i64 14, .int .i64 (jt : Int), .slice aa args.length ac, .int .i64 (kn : Int)] 83)) = W1 at hba hrow hS1 hR1 hA1
  have HW := Lib.hid hW
  clear hW
  have HS1 := Lib.hid (And.intro hba (And.intro hrow (And.intro hS1 (And.intro hR1 hA1))))
  clear hba hrow hS1 hR1 hA1
  by_cases hl0 : 0 < args.length
  · by_cases hl1 : 1 < args.length
    · go_enter Try.func54, Try.ntmps54
      go_upto_region 1 with fail
      rw [HW.out]
      obtain ⟨ib, hib⟩ : ∃ b, b = w.heap.size := ⟨_, rfl⟩
      have HIB := Lib.hid hib
      rw [← hib]
      have hrow := HS1.out.2.1
      rw [← hib] at hrow
      clear hib
      have m0 := cell_of_row _ _ 0 _ _ _ hrow
      have m1 := cell_of_row _ _ 1 _ _ _ hrow
      have m2 := cell_of_row _ _ 2 _ _ _ hrow
      have m3 := cell_of_row _ _ 3 _ _ _ hrow
      simp only [List.getElem?_toArray, List.getElem?_cons_zero, List.getElem?_cons_succ] at m0 m1 m2 m3
      clear hrow
      obtain ⟨pb, po, x0, hqa, hx0, hc0⟩ := HS1.out.2.2.2.2.place hl0
      subst hqa
      have hxr0 := HI.out x0 (List.mem_of_getElem? hx0)
      obtain ⟨i0, rfl⟩ : ∃ i : Nat, x0 = (i : Int) := ⟨x0.toNat, by omega⟩
      rw [Nat.add_zero] at hc0
      have r0 := HS1.out.2.2.2.1.at (j := i0) (by omega)
      have i0l : (i0 : Int) < (n : Int) := hxr0.2
      clear hx0 hxr0
      obtain ⟨pb', po', x1, hqa, hx1, hc1⟩ := HS1.out.2.2.2.2.place hl1
      cases hqa
      have hxr1 := HI.out x1 (List.mem_of_getElem? hx1)
      obtain ⟨i1, rfl⟩ : ∃ i : Nat, x1 = (i : Int) := ⟨x1.toNat, by omega⟩
      have r1 := HS1.out.2.2.2.1.at (j := i1) (by omega)
      have i1l : (i1 : Int) < (n : Int) := hxr1.2
      clear hx1 hxr1
      go_wp2_with fail
      refine (HPU.out _).mono ?_
      rintro e w1 ⟨rfl, rfl⟩
      have HG0 := Lib.hid (Gath.start w1)
      go_wp2
      go_loopg [10, 11] args.length (fun F o i wr => ∃ j : Nat, j + F = args.length ∧ i = .int .i64 j ∧ ∃ oa on oc, o = .slice oa on oc ∧ Hid (Gath w1 ((args.take j).map (atI regs)) oa on oc wr))
      case atStart => exact ⟨0, by omega, rfl, _, _, _, rfl, HG0⟩
      case round =>
        obtain ⟨j, hj, rfl, oa, on, oc, rfl, HGa⟩ := hrel
        clear HG0
        have hon := HGa.out.len
        rw [List.length_map, List.length_take, Nat.min_eq_left (by omega)] at hon
        have HON := Lib.hid hon
        have hon3 : on ≤ 3 := by omega
        clear hon
        have m0 := cell_later HGa.out.below m0
        have m1 := cell_later HGa.out.below m1
        have m2 := cell_later HGa.out.below m2
        have m3 := cell_later HGa.out.below m3
        by_cases hlt : j < args.length
        · obtain ⟨qb, qo, x, hqa, hx, hcx⟩ := (HS1.out.2.2.2.2.later HGa.out.below).place hlt
          cases hqa
          have hxr := HI.out x (List.mem_of_getElem? hx)
          obtain ⟨ix, rfl⟩ : ∃ i : Nat, x = (i : Int) := ⟨x.toNat, by omega⟩
          have rx := (HS1.out.2.2.2.1.later HGa.out.below).at (j := ix) (by omega)
          have hxl : (ix : Int) < (n : Int) := hxr.2
          have HT := Lib.hid (show (args.take (j + 1)).map (atI regs) = (args.take j).map (atI regs) ++ [atI regs (ix : Int)] by rw [take_succ_of hx, List.map_append]; rfl)
          clear hx hxr
          generalize atI regs (ix : Int) = v at rx HT
          go_wp2_with (at_builtin; refine app_ints rfl (.tmp 95) (.tmp 104) rfl w1.heap.size _ on _ rfl (HGa.out.row.alloc _) _ 1 _ [v] rfl rfl (rowAt_one _ _ _) (by rintro ⟨⟩) (by omega) (by have := HGa.out.below.size; simp; omega) ?_; intro a5 c5 w5 hown5 hg5 hlies5)
          have HN2 := Lib.hid (HGa.out.push hown5 hg5)
          clear hown5 hg5 hlies5
          go_roundg (args.length - (j + 1))
          case measure => omega
          case rel => exact ⟨j + 1, by omega, by go_num, a5, _, c5, rfl, Lib.hid (by rw [HT.out]; exact HN2.out)⟩
        · obtain rfl : j = args.length := by omega
          have hbe := HGa.out.below
          have hSr := HS1.out.2.2.1.later hbe
          have hRr := HS1.out.2.2.2.1.later hbe
          have hgr := HGa.out.row
          rw [List.take_length] at hgr
          have HIN := Lib.hid (show IntsRd wr oa (args.map (atI regs)).length (args.map (atI regs)) from ⟨rfl, rowAt_of_own hgr⟩)
          have hbi : Byts (args.map (atI regs)) := fun v hv => by
            obtain ⟨r, -, rfl⟩ := List.mem_map.1 hv
            exact HBY.out.at _
          have hk1 := HKK.out
          have hpl : ((args.map (atI regs)).length : Int) = c'.params := by rw [List.length_map]; exact HX.out.2.2.1
          have hcall := HX.out.1 kn c' (args.map (atI regs)) oa oc D sv tv wr s hk1.2 HX.out.2.1 hpl HIN.out hbi hSr HX.out.2.2.2.2 HX.out.2.2.2.1 (fun e => by omega)
          have hone : (args.map (atI regs)).length = on := by rw [List.length_map]; exact HON.out.symm
          rw [hone] at hcall
          have HCALL := Lib.hid hcall
          have HRB := Lib.hid (And.intro hSr (And.intro hRr (HS1.out.1.trans (hbe.mono HS1.out.1.size))))
          clear hcall hone hgr hbi hpl hSr hRr hbe hk1
          obtain ⟨R, hRR⟩ : ∃ R, R = codeRun doD predsC us d kn (args.map (atI regs)) s := ⟨_, rfl⟩
          rw [← hRR] at HCALL HG
          have HRR := Lib.hid hRR
          clear hRR
          go_wp2_with fail
          refine HCALL.out.mono ?_
          rintro e w2 ⟨rfl, D2, sv2, tv2, hS2, hT2⟩
          have hgbr := HRB.out.2.1.lt.2
          have hR2 := HRB.out.2.1.stay hT2.turned HRB.out.2.1.out (hT2.out hgbr HRB.out.2.1.out)
          have rt := hR2.at (j := jt) (by omega)
          have rf := hR2.free jt
          have m1 := hT2.cell m1 (fun hd => by
            have h1 := HRB.out.1.lo _ hd
            have h2 := HIB.out
            exact HNB.out (h2 ▸ hd))
          have HP := Lib.hid (show InsPost w0 ua us.length uc rb cb gb n D w (setI regs (jt : Int) R.1, R.2) (w2.setCell ⟨gb, jt, none⟩ (.int .i64 R.1)) from by
            have ht := turned_store w2 gb jt (.int .i64 R.1)
            have hbw := HRB.out.2.2
            have hgw := HGB.out
            refine ⟨D2, sv2, tv2, hS2.stay ht (fun k hk => by subst hk; exact ⟨hR2.out, hR2.lt.1⟩), hR2.put jt HG.out.1, ⟨?_, fun k hk hd => hd.elim (fun h2 => .inl (hT2.dom k (Nat.lt_of_lt_of_le hk hbw.size) h2)) .inr⟩⟩
            exact ((turned_of_below hbw (fun k h1 h2 => by omega)).trans (hT2.turned.mono (fun k hk => .inl hk))).trans (ht.mono (fun k hk => .inr hk)))
          clear hS2 hT2 hR2 hgbr m0 m2 m3
          go_wp2
          go_end0
          exact ⟨rfl, by rw [← HRR.out]; exact HP.out⟩
    · go_enter Try.func54, Try.ntmps54
      go_upto_region 1 with fail
      rw [HW.out]
      obtain ⟨ib, hib⟩ : ∃ b, b = w.heap.size := ⟨_, rfl⟩
      have HIB := Lib.hid hib
      rw [← hib]
      have hrow := HS1.out.2.1
      rw [← hib] at hrow
      clear hib
      have m0 := cell_of_row _ _ 0 _ _ _ hrow
      have m1 := cell_of_row _ _ 1 _ _ _ hrow
      have m2 := cell_of_row _ _ 2 _ _ _ hrow
      have m3 := cell_of_row _ _ 3 _ _ _ hrow
      simp only [List.getElem?_toArray, List.getElem?_cons_zero, List.getElem?_cons_succ] at m0 m1 m2 m3
      clear hrow
      obtain ⟨pb, po, x0, hqa, hx0, hc0⟩ := HS1.out.2.2.2.2.place hl0
      subst hqa
      have hxr0 := HI.out x0 (List.mem_of_getElem? hx0)
      obtain ⟨i0, rfl⟩ : ∃ i : Nat, x0 = (i : Int) := ⟨x0.toNat, by omega⟩
      rw [Nat.add_zero] at hc0
      have r0 := HS1.out.2.2.2.1.at (j := i0) (by omega)
      have i0l : (i0 : Int) < (n : Int) := hxr0.2
      clear hx0 hxr0
      go_wp2_with fail
      refine (HPU.out _).mono ?_
      rintro e w1 ⟨rfl, rfl⟩
      have HG0 := Lib.hid (Gath.start w1)
      go_wp2
      go_loopg [10, 11] args.length (fun F o i wr => ∃ j : Nat, j + F = args.length ∧ i = .int .i64 j ∧ ∃ oa on oc, o = .slice oa on oc ∧ Hid (Gath w1 ((args.take j).map (atI regs)) oa on oc wr))
      case atStart => exact ⟨0, by omega, rfl, _, _, _, rfl, HG0⟩
      case round =>
        obtain ⟨j, hj, rfl, oa, on, oc, rfl, HGa⟩ := hrel
        clear HG0
        have hon := HGa.out.len
        rw [List.length_map, List.length_take, Nat.min_eq_left (by omega)] at hon
        have HON := Lib.hid hon
        have hon3 : on ≤ 3 := by omega
        clear hon
        have m0 := cell_later HGa.out.below m0
        have m1 := cell_later HGa.out.below m1
        have m2 := cell_later HGa.out.below m2
        have m3 := cell_later HGa.out.below m3
        by_cases hlt : j < args.length
        · obtain ⟨qb, qo, x, hqa, hx, hcx⟩ := (HS1.out.2.2.2.2.later HGa.out.below).place hlt
          cases hqa
          have hxr := HI.out x (List.mem_of_getElem? hx)
          obtain ⟨ix, rfl⟩ : ∃ i : Nat, x = (i : Int) := ⟨x.toNat, by omega⟩
          have rx := (HS1.out.2.2.2.1.later HGa.out.below).at (j := ix) (by omega)
          have hxl : (ix : Int) < (n : Int) := hxr.2
          have HT := Lib.hid (show (args.take (j + 1)).map (atI regs) = (args.take j).map (atI regs) ++ [atI regs (ix : Int)] by rw [take_succ_of hx, List.map_append]; rfl)
          clear hx hxr
          generalize atI regs (ix : Int) = v at rx HT
          go_wp2_with (at_builtin; refine app_ints rfl (.tmp 95) (.tmp 104) rfl w1.heap.size _ on _ rfl (HGa.out.row.alloc _) _ 1 _ [v] rfl rfl (rowAt_one _ _ _) (by rintro ⟨⟩) (by omega) (by have := HGa.out.below.size; simp; omega) ?_; intro a5 c5 w5 hown5 hg5 hlies5)
          have HN2 := Lib.hid (HGa.out.push hown5 hg5)
          clear hown5 hg5 hlies5
          go_roundg (args.length - (j + 1))
          case measure => omega
          case rel => exact ⟨j + 1, by omega, by go_num, a5, _, c5, rfl, Lib.hid (by rw [HT.out]; exact HN2.out)⟩
        · obtain rfl : j = args.length := by omega
          have hbe := HGa.out.below
          have hSr := HS1.out.2.2.1.later hbe
          have hRr := HS1.out.2.2.2.1.later hbe
          have hgr := HGa.out.row
          rw [List.take_length] at hgr
          have HIN := Lib.hid (show IntsRd wr oa (args.map (atI regs)).length (args.map (atI regs)) from ⟨rfl, rowAt_of_own hgr⟩)
          have hbi : Byts (args.map (atI regs)) := fun v hv => by
            obtain ⟨r, -, rfl⟩ := List.mem_map.1 hv
            exact HBY.out.at _
          have hk1 := HKK.out
          have hpl : ((args.map (atI regs)).length : Int) = c'.params := by rw [List.length_map]; exact HX.out.2.2.1
          have hcall := HX.out.1 kn c' (args.map (atI regs)) oa oc D sv tv wr s hk1.2 HX.out.2.1 hpl HIN.out hbi hSr HX.out.2.2.2.2 HX.out.2.2.2.1 (fun e => by omega)
          have hone : (args.map (atI regs)).length = on := by rw [List.length_map]; exact HON.out.symm
          rw [hone] at hcall
          have HCALL := Lib.hid hcall
          have HRB := Lib.hid (And.intro hSr (And.intro hRr (HS1.out.1.trans (hbe.mono HS1.out.1.size))))
          clear hcall hone hgr hbi hpl hSr hRr hbe hk1
          obtain ⟨R, hRR⟩ : ∃ R, R = codeRun doD predsC us d kn (args.map (atI regs)) s := ⟨_, rfl⟩
          rw [← hRR] at HCALL HG
          have HRR := Lib.hid hRR
          clear hRR
          go_wp2_with fail
          refine HCALL.out.mono ?_
          rintro e w2 ⟨rfl, D2, sv2, tv2, hS2, hT2⟩
          have hgbr := HRB.out.2.1.lt.2
          have hR2 := HRB.out.2.1.stay hT2.turned HRB.out.2.1.out (hT2.out hgbr HRB.out.2.1.out)
          have rt := hR2.at (j := jt) (by omega)
          have rf := hR2.free jt
          have m1 := hT2.cell m1 (fun hd => by
            have h1 := HRB.out.1.lo _ hd
            have h2 := HIB.out
            exact HNB.out (h2 ▸ hd))
          have HP := Lib.hid (show InsPost w0 ua us.length uc rb cb gb n D w (setI regs (jt : Int) R.1, R.2) (w2.setCell ⟨gb, jt, none⟩ (.int .i64 R.1)) from by
            have ht := turned_store w2 gb jt (.int .i64 R.1)
            have hbw := HRB.out.2.2
            have hgw := HGB.out
            refine ⟨D2, sv2, tv2, hS2.stay ht (fun k hk => by subst hk; exact ⟨hR2.out, hR2.lt.1⟩), hR2.put jt HG.out.1, ⟨?_, fun k hk hd => hd.elim (fun h2 => .inl (hT2.dom k (Nat.lt_of_lt_of_le hk hbw.size) h2)) .inr⟩⟩
            exact ((turned_of_below hbw (fun k h1 h2 => by omega)).trans (hT2.turned.mono (fun k hk => .inl hk))).trans (ht.mono (fun k hk => .inr hk)))
          clear hS2 hT2 hR2 hgbr m0 m2 m3
          go_wp2
          go_end0
          exact ⟨rfl, by rw [← HRR.out]; exact HP.out⟩
  · go_enter Try.func54, Try.ntmps54
    go_upto_region 1 with fail
    rw [HW.out]
    obtain ⟨ib, hib⟩ : ∃ b, b = w.heap.size := ⟨_, rfl⟩
    have HIB := Lib.hid hib
    rw [← hib]
    have hrow := HS1.out.2.1
    rw [← hib] at hrow
    clear hib
    have m0 := cell_of_row _ _ 0 _ _ _ hrow
    have m1 := cell_of_row _ _ 1 _ _ _ hrow
    have m2 := cell_of_row _ _ 2 _ _ _ hrow
    have m3 := cell_of_row _ _ 3 _ _ _ hrow
    simp only [List.getElem?_toArray, List.getElem?_cons_zero, List.getElem?_cons_succ] at m0 m1 m2 m3
    clear hrow
    go_wp2_with fail
    refine (HPU.out _).mono ?_
    rintro e w1 ⟨rfl, rfl⟩
    have HG0 := Lib.hid (Gath.start w1)
    go_wp2
    go_loopg [10, 11] args.length (fun F o i wr => ∃ j : Nat, j + F = args.length ∧ i = .int .i64 j ∧ ∃ oa on oc, o = .slice oa on oc ∧ Hid (Gath w1 ((args.take j).map (atI regs)) oa on oc wr))
    case atStart => exact ⟨0, by omega, rfl, _, _, _, rfl, HG0⟩
    case round =>
      obtain ⟨j, hj, rfl, oa, on, oc, rfl, HGa⟩ := hrel
      clear HG0
      have hon := HGa.out.len
      rw [List.length_map, List.length_take, Nat.min_eq_left (by omega)] at hon
      have HON := Lib.hid hon
      have hon3 : on ≤ 3 := by omega
      clear hon
      have m0 := cell_later HGa.out.below m0
      have m1 := cell_later HGa.out.below m1
      have m2 := cell_later HGa.out.below m2
      have m3 := cell_later HGa.out.below m3
      by_cases hlt : j < args.length
      · exfalso; omega
      · obtain rfl : j = args.length := by omega
        have hbe := HGa.out.below
        have hSr := HS1.out.2.2.1.later hbe
        have hRr := HS1.out.2.2.2.1.later hbe
        have hgr := HGa.out.row
        rw [List.take_length] at hgr
        have HIN := Lib.hid (show IntsRd wr oa (args.map (atI regs)).length (args.map (atI regs)) from ⟨rfl, rowAt_of_own hgr⟩)
        have hbi : Byts (args.map (atI regs)) := fun v hv => by
          obtain ⟨r, -, rfl⟩ := List.mem_map.1 hv
          exact HBY.out.at _
        have hk1 := HKK.out
        have hpl : ((args.map (atI regs)).length : Int) = c'.params := by rw [List.length_map]; exact HX.out.2.2.1
        have hcall := HX.out.1 kn c' (args.map (atI regs)) oa oc D sv tv wr s hk1.2 HX.out.2.1 hpl HIN.out hbi hSr HX.out.2.2.2.2 HX.out.2.2.2.1 (fun e => by omega)
        have hone : (args.map (atI regs)).length = on := by rw [List.length_map]; exact HON.out.symm
        rw [hone] at hcall
        have HCALL := Lib.hid hcall
        have HRB := Lib.hid (And.intro hSr (And.intro hRr (HS1.out.1.trans (hbe.mono HS1.out.1.size))))
        clear hcall hone hgr hbi hpl hSr hRr hbe hk1
        obtain ⟨R, hRR⟩ : ∃ R, R = codeRun doD predsC us d kn (args.map (atI regs)) s := ⟨_, rfl⟩
        rw [← hRR] at HCALL HG
        have HRR := Lib.hid hRR
        clear hRR
        go_wp2_with fail
        refine HCALL.out.mono ?_
        rintro e w2 ⟨rfl, D2, sv2, tv2, hS2, hT2⟩
        have hgbr := HRB.out.2.1.lt.2
        have hR2 := HRB.out.2.1.stay hT2.turned HRB.out.2.1.out (hT2.out hgbr HRB.out.2.1.out)
        have rt := hR2.at (j := jt) (by omega)
        have rf := hR2.free jt
        have m1 := hT2.cell m1 (fun hd => by
          have h1 := HRB.out.1.lo _ hd
          have h2 := HIB.out
          exact HNB.out (h2 ▸ hd))
        have HP := Lib.hid (show InsPost w0 ua us.length uc rb cb gb n D w (setI regs (jt : Int) R.1, R.2) (w2.setCell ⟨gb, jt, none⟩ (.int .i64 R.1)) from by
          have ht := turned_store w2 gb jt (.int .i64 R.1)
          have hbw := HRB.out.2.2
          have hgw := HGB.out
          refine ⟨D2, sv2, tv2, hS2.stay ht (fun k hk => by subst hk; exact ⟨hR2.out, hR2.lt.1⟩), hR2.put jt HG.out.1, ⟨?_, fun k hk hd => hd.elim (fun h2 => .inl (hT2.dom k (Nat.lt_of_lt_of_le hk hbw.size) h2)) .inr⟩⟩
          exact ((turned_of_below hbw (fun k h1 h2 => by omega)).trans (hT2.turned.mono (fun k hk => .inl hk))).trans (ht.mono (fun k hk => .inr hk)))
        clear hS2 hT2 hR2 hgbr m0 m2 m3
        go_wp2
        go_end0
        exact ⟨rfl, by rw [← HRR.out]; exact HP.out⟩

theorem one_arg {aa : Option Addr} {args : List Int} (hA : IntsRd w0 aa args.length args) (hargs : ∀ r ∈ args, 0 ≤ r ∧ r < (n : Int)) (hl : args.length = 1) :
    ∃ i0 ab ao, args = [((i0 : Nat) : Int)] ∧ i0 < n ∧ aa = some ⟨ab, ao, none⟩ ∧ w0.cell? ⟨ab, ao, none⟩ = some (.int .i64 (i0 : Int)) := by
  match args, hl with
  | [r], _ =>
    obtain ⟨ab, ao, x, rfl, hx, hc⟩ := hA.place (i := 0) (by simp)
    obtain rfl : r = x := by simpa using hx
    have h0 := hargs r (by simp)
    obtain ⟨i0, rfl⟩ : ∃ i : Nat, r = (i : Int) := ⟨r.toNat, by omega⟩
    exact ⟨i0, ab, ao, rfl, by omega, rfl, hc⟩
theorem two_arg {aa : Option Addr} {args : List Int} (hA : IntsRd w0 aa args.length args) (hargs : ∀ r ∈ args, 0 ≤ r ∧ r < (n : Int)) (hl : args.length = 2) :
    ∃ i0 i1 ab ao, args = [((i0 : Nat) : Int), ((i1 : Nat) : Int)] ∧ i0 < n ∧ i1 < n ∧ aa = some ⟨ab, ao, none⟩ ∧ w0.cell? ⟨ab, ao, none⟩ = some (.int .i64 (i0 : Int)) ∧ w0.cell? ⟨ab, ao + 1, none⟩ = some (.int .i64 (i1 : Int)) := by
  match args, hl with
  | [r, q], _ =>
    obtain ⟨ab, ao, x, rfl, hx, hc⟩ := hA.place (i := 0) (by simp)
    obtain rfl : r = x := by simpa using hx
    have hc1 := hA.cell (i := 1) (x := q) rfl
    have h0 := hargs r (by simp)
    have h1 := hargs q (by simp)
    obtain ⟨i0, rfl⟩ : ∃ i : Nat, r = (i : Int) := ⟨r.toNat, by omega⟩
    obtain ⟨i1, rfl⟩ : ∃ i : Nat, q = (i : Int) := ⟨q.toNat, by omega⟩
    exact ⟨i0, i1, ab, ao, rfl, by omega, by omega, rfl, hc, hc1⟩
/-- An instruction of a valid code. -/
theorem insS_any (hV : UnitV us) (hC : CodeC w0 us ua uc rb cb d kk) (hkk : kk < us.length) {c : CodeD} {x : InsD} (hx : InsV us kk c.regs x) (cs : List Value) (hR : InsR w0 cs x) (hn : (n : Int) = c.regs) (hnl : n ≤ 300)
    (h : SSt w0 ua us.length uc rb cb D sv tv w s) (hr : RgSt w0.heap.size gb n D w regs) (hs : Good s) (hf : s.fin = none) (hsm : s.said.length + s.left < 60000) :
    Calls Try.prog 54 #[.pointer (some ⟨rb, 0, none⟩), .agg cs.toArray, .slice (some ⟨gb, 0, none⟩) n n] w fun e w' => e = .returned (.tuple #[]) ∧ InsPost w0 ua us.length uc rb cb gb n D w (insRun doD (codeRun doD predsC us d) x regs s) w' := by
  obtain ⟨op, tq, args, num⟩ := x
  obtain ⟨aa, ac, rfl, -, hA⟩ := hR
  have hargs : ∀ r ∈ args, 0 ≤ r ∧ r < (n : Int) := fun r hr => by rw [hn]; exact hx.args r hr
  have hop : 1 ≤ op ∧ op ≤ 14 := hx.op
  have hdest : op ≠ 12 → op ≠ 13 → 0 ≤ tq ∧ tq < (n : Int) := fun a b => by rw [hn]; exact hx.dest a b
  have har : op ≠ 1 → op ≠ 14 → (args.length : Int) = argsN op := hx.arity
  by_cases h1 : op = 1
  · have h2 := hx.num h1
    obtain rfl : args = [] := List.length_eq_zero_iff.1 h2.1
    exact insS_num _ (show 1 ≤ op ∧ op ≤ 10 by omega) h2.2 (hdest (by omega) (by omega)) hnl h hr hs
  by_cases h14 : op = 14
  · subst h14
    have h2 := hx.call rfl
    change 0 ≤ num ∧ num < kk ∧ (args.length : Int) = _ at h2
    obtain ⟨kn, rfl⟩ : ∃ j : Nat, num = (j : Int) := ⟨num.toNat, by omega⟩
    have hk2 : kn < us.length := by omega
    have hc' : us[kn]? = some (us[kn]'hk2) := List.getElem?_eq_getElem hk2
    refine insS_call hV hC hkk (by omega) hc' ?_ (hdest (by omega) (by omega)) hargs hA hnl h hr hs hf
    rw [h2.2.2, List.getD_eq_getElem?_getD, List.getElem?_map, Int.toNat_natCast, hc']
    rfl
  have har2 := har h1 h14
  by_cases hone : op = 2 ∨ op = 10 ∨ op = 11 ∨ op = 13
  · have hl : args.length = 1 := by
      unfold argsN at har2
      rw [if_neg h1, if_pos hone] at har2
      omega
    obtain ⟨i0, ab, ao, rfl, hi0, rfl, hc⟩ := one_arg hA hargs hl
    by_cases h13 : op = 13
    · subst h13
      exact insS_say _ hi0 hc hnl h hr hs hsm
    by_cases h11 : op = 11
    · subst h11
      by_cases hfar : 16 ≤ atI regs (i0 : Int)
      · exact insS_farat _ hi0 hc hnl h hr hs hfar
      · exact insS_at _ (hdest (by omega) (by omega)) hi0 hc hnl h hr hs (by omega)
    · exact insS_one _ (show 1 ≤ op ∧ op ≤ 10 by omega) (hdest (by omega) (by omega)) hi0 hc hnl h hr hs
  · have hl : args.length = 2 := by
      unfold argsN at har2
      rw [if_neg h1, if_neg hone] at har2
      omega
    obtain ⟨i0, i1, ab, ao, rfl, hi0, hi1, rfl, hc, hc1⟩ := two_arg hA hargs hl
    by_cases h12 : op = 12
    · subst h12
      by_cases hfar : 16 ≤ atI regs (i0 : Int)
      · exact insS_farput _ hi0 hc hi1 hc1 hnl h hr hs hfar
      · exact insS_put _ hi0 hc hi1 hc1 hnl h hr hs (by omega)
    · exact insS_two _ (show 1 ≤ op ∧ op ≤ 10 by omega) (hdest (by omega) (by omega)) hi0 hc hi1 hc1 hnl h hr hs
end

end Go.Proofs.Ytajnldkempeheaa
