/-
  The drawn unit: l7Unit. (printed by mkdg6.py)
-/
import Derived.Test.YtajnldkempeheaaDg5
import Derived.Test.YtajnldkempeheaaHl
import Derived.Test.YtajnldkempeheaaPreds
import Derived.Deep.DeepCutAuto

namespace Go.Proofs.Ytajnldkempeheaa
open Go.RowKit
set_option linter.unusedVariables false
set_option linter.unusedSimpArgs false

/-- A unit was drawn. -/
def UnitAns (w0 : World) (br : Nat) (ra : Option Addr) (rl rc : Nat) (bs : List Int) (K N : Nat) (w : World) (e : Ending) (w' : World) : Prop :=
  ∃ (us : List CodeD) (ua : Option Addr) (uc : Nat), e = .returned (.agg #[.slice ua us.length uc]) ∧ SepK 3 37 CodeK (fun k => w.heap.size ≤ k) w' ua us.length uc us ∧ (1 ≤ us.length ∧ us.length ≤ 3) ∧ (∀ c ∈ us, SmallC N c) ∧ RdAt w0 br ra rl rc bs K w w'
section
variable {w0 w W W' w9 : World} {br : Nat} {ra : Option Addr} {rl rc : Nat} {bs : List Int} {ub rb : Nat} {us : List CodeD} {ua : Option Addr} {uc : Nat} {S : Nat → Prop} {K K' : Nat}
theorem UnSt.begin {A B : Obj} (hR : RdAt w0 br ra rl rc bs K w w) (h2 : W.heap[w.heap.size]? = some (.cells #[.slice none 0 0] 25 (0, 0)) ∧ W.heap[w.heap.size + 1]? = some (.cells #[.slice none 0 0] 25 (0, 0)) ∧ W.heap.size = w.heap.size + 2 ∧ Below w.heap.size w W) :
    UnSt w0 br ra rl rc bs w (w.heap.size + 1) w.heap.size [] none 0 (fun _ => False) K W := by
  have := hR.lt
  exact ⟨h2.2.1, h2.1, SepK.nil, fun q hq => hq.elim, hR.later h2.2.2.2, by omega, by have := hR.base.size; omega, by omega, by omega, by omega⟩
theorem UnSt.sS (h : UnSt w0 br ra rl rc bs w ub rb us ua uc S K W) : ∀ q, S q → q ≠ br ∧ q < W.heap.size := fun q hq => by have := h.su q hq; have := h.lo; omega
theorem UnSt.rows (h : UnSt w0 br ra rl rc bs w ub rb us ua uc S K W) (ht : Turned (fun k => k = br) W W') {cells : List (List Value)} {G : Nat → Nat → Prop} (hs : SepRows 3 37 CodeK S W ua us.length uc us cells G) : SepRows 3 37 CodeK S W' ua us.length uc us cells G :=
  hs.turned codeK_sets ht (fun q _ h1 h2 => (h.sS q h1).1 h2)
theorem UnSt.lt (h : UnSt w0 br ra rl rc bs w ub rb us ua uc S K W) : ub < W.heap.size ∧ rb < W.heap.size ∧ w.heap.size ≤ W.heap.size ∧ w.heap.size ≤ ub ∧ w.heap.size ≤ rb ∧ ub ≠ rb := by
  have a1 := (Array.getElem?_eq_some_iff.1 h.u).1
  have a2 := (Array.getElem?_eq_some_iff.1 h.r).1
  have := h.lo
  omega
theorem UnSt.fin {N : Nat} (h : UnSt w0 br ra rl rc bs w ub rb us ua uc S K W) (ht : Turned (fun k => k = rb) W W') (hl : 1 ≤ us.length ∧ us.length ≤ 3) (hs : ∀ c ∈ us, SmallC N c) (hK : K ≤ K') : UnitAns w0 br ra rl rc bs K' N w (.returned (.agg #[.slice ua us.length uc])) W' := by
  have hlt := h.lt
  exact ⟨us, ua, uc, rfl, (h.un.turned codeK_sets ht (fun q _ h1 h2 => by have := h.su q h1; omega)).mono (fun q hq => (h.su q hq).1), hl, hs, ((h.rdOwn ht (fun k hk _ => by omega))).more hK⟩
/-- The code at a place, to be read. -/
theorem UnSt.code (h : UnSt w0 br ra rl rc bs w ub rb us ua uc S K W) {j : Nat} {x : CodeD} {g : Nat} (hg : ua = some ⟨g, 0, none⟩) (hx : us[j]? = some x) :
    ∃ ba bc, W.cell? ⟨g, j * 3, none⟩ = some (.int .i64 x.params) ∧ W.cell? ⟨g, j * 3 + 1, none⟩ = some (.int .i64 x.regs) ∧ W.cell? ⟨g, j * 3 + 2, none⟩ = some (.slice ba x.blocks.length bc) ∧ CodeR W [.int .i64 x.params, .int .i64 x.regs, .slice ba x.blocks.length bc] x := by
  obtain ⟨g', ba, bc, pre, post, F, hua, hm, hbl, -⟩ := h.setC hx
  rw [hg] at hua
  cases hua
  exact ⟨ba, bc, hm.cell (q := 0) rfl, hm.cell rfl, hm.cell rfl, codeK_rd _ _ _ _ ⟨ba, bc, rfl, hbl⟩⟩
end
theorem sum_small {N : Nat} : ∀ l : List BlockD, (∀ x ∈ l, szBlockD x ≤ N) → sumOf szBlockD l ≤ N * l.length
  | [], _ => Nat.zero_le _
  | x :: l, h => by
    have h1 := h x (List.mem_cons_self ..)
    have h2 := sum_small l (fun z hz => h z (List.mem_cons_of_mem _ hz))
    simp only [sumOf, List.map_cons, List.sum_cons, List.length_cons, Nat.mul_succ] at h2 ⊢
    omega
theorem SmallC.sz {N : Nat} {c : CodeD} (h : SmallC N c) : szCodeD c ≤ 7 + N * 7 := by
  have h1 := sum_small c.blocks h.2.2.2
  have h2 := h.2.2.1
  have h3 := Nat.mul_le_mul_left N h2.2
  simp only [szCodeD, szS]
  omega
theorem PhSt.held {w0 w W : World} {br : Nat} {ra : Option Addr} {rl rc : Nat} {bs : List Int} {ub rb : Nat} {us : List CodeD} {ua : Option Addr} {uc : Nat} {S : Nat → Prop} {K pb k : Nat} {tq : Int} {xs : List Int} {aa : Option Addr} {ac : Nat} (h : PhSt w0 br ra rl rc bs w ub rb us ua uc S K pb tq xs aa k ac W) {j : Nat} {x : CodeD} {g : Nat} (hg : ua = some ⟨g, 0, none⟩) (hx : us[j]? = some x) :
    W.cell? ⟨g, j * 3 + 1, none⟩ = some (.int .i64 x.regs) ∧ W.cell? ⟨pb, 1, none⟩ = some (.slice aa k ac) := by
  obtain ⟨_, _, _, h1, _⟩ := h.un.code hg hx
  exact ⟨h1, cell_of_row _ _ 1 _ _ _ h.p⟩
/-- What l7Preds gives for a code of the unit. -/
theorem UnSt.pred7 {w0 w W : World} {br : Nat} {ra : Option Addr} {rl rc : Nat} {bs : List Int} {ub rb : Nat} {us : List CodeD} {ua : Option Addr} {uc : Nat} {S : Nat → Prop} {K : Nat} (h : UnSt w0 br ra rl rc bs w ub rb us ua uc S K W) {j N : Nat} {x : CodeD} {g : Nat} (hg : ua = some ⟨g, 0, none⟩) (hx : us[j]? = some x) (hs : SmallC N x) (hN : N ≤ 100000) (b : Int) :
    ∃ ba bc L, W.cell? ⟨g, j * 3, none⟩ = some (.int .i64 x.params) ∧ W.cell? ⟨g, j * 3 + 1, none⟩ = some (.int .i64 x.regs) ∧ W.cell? ⟨g, j * 3 + 2, none⟩ = some (.slice ba x.blocks.length bc) ∧ L ≤ 7 ∧
      Calls Try.prog 38 #[.agg #[.int .i64 x.params, .int .i64 x.regs, .slice ba x.blocks.length bc], .int .i64 b] W fun e w' => ∃ a cap, e = .returned (.slice a L cap) ∧ Below W.heap.size W w' := by
  obtain ⟨ba, bc, c0, c1, c2, hR⟩ := h.code hg hx
  obtain ⟨ba', bc', hcs, hgr⟩ := gr_of_code hR (by have := hs.sz; omega)
  have hnx : (nxs x).length = x.blocks.length := by simp [nxs]
  simp only [List.cons.injEq, Value.slice.injEq, true_and, and_true] at hcs
  obtain ⟨rfl, -, rfl⟩ := hcs
  have hP := l7Preds_any x.params x.regs ba bc (nxs x) b W hgr
  rw [hnx] at hP
  refine ⟨ba, bc, (preds (nxs x) b).length, c0, c1, c2, by have := preds_len (nxs x) b; have := hs.2.2.1; omega, hP.mono ?_⟩
  rintro e w' ⟨a, cap, rfl, -, hb⟩
  exact ⟨a, cap, rfl, hb⟩
section
variable {w0 w : World} {br : Nat} {ra : Option Addr} {rl rc : Nat} {bs : List Int} {K : Nat}
set_option maxRecDepth 100000 in
set_option maxHeartbeats 8000000 in
theorem l7Unit_any (hR : RdAt w0 br ra rl rc bs K w w) (hrl : rl ≤ 2000) (hK : K + 1300 ≤ 1000000) :
    Calls Try.prog 21 #[.pointer (some ⟨br, 0, none⟩)] w fun e w' => UnitAns w0 br ra rl rc bs (K + 1300) 44 w e w' := by
  have h2 := two_blocks w (.cells #[.slice none 0 0] 25) (.cells #[.slice none 0 0] 25)
  generalize hW : (w.alloc (.cells #[.slice none 0 0] 25)).alloc (.cells #[.slice none 0 0] 25) = W2 at h2
  have hU2 := UnSt.begin (A := .cells #[] 0) (B := .cells #[] 0) hR h2
  have HW := Lib.hid hW
  obtain ⟨rb, hrb⟩ : ∃ b, b = w.heap.size := ⟨_, rfl⟩
  obtain ⟨ub, hub⟩ : ∃ b, b = w.heap.size + 1 := ⟨_, rfl⟩
  rw [← hub, ← hrb] at hU2
  have HU2 := Lib.hid hU2
  have HUB := Lib.hid hub
  have HRB := Lib.hid hrb
  clear hR h2 hW hrb hub hU2
  go_enter Try.func21, Try.ntmps21
  go_upto_region 2 with fail
  rw [HW.out, ← HUB.out, ← HRB.out]
  have hba : Below W2.heap.size W2 (W2.alloc (.cells (([1, 2, 1, 3] : List Int).map (Value.int .i64)).toArray 3)) := (Below.refl _ _).alloc (Nat.le_refl _) _
  have HNM := Lib.hid (numR (HU2.out.later hba).rd hrl (by omega) (g := W2.heap.size) (n := 4) (c := 4) (xs := [1, 2, 1, 3]) ⟨rfl, rowAt_of_own (World.ownsRow_lit (base := 0) (size := 1) W2 _ 4 (Nat.zero_le _) (by decide) rfl)⟩ (by have := HU2.out.lt; have := HU2.out.lo; omega) (by omega))
  have HBA := Lib.hid hba
  clear hba
  go_wp2_with fail
  refine HNM.out.mono ?_
  rintro e w3 ⟨mI, rfl, hmI, hR3, hg3⟩
  have HU3 := Lib.hid ((HU2.out.later HBA.out).drew hg3 hR3)
  obtain ⟨m, hm1, hm2⟩ : ∃ m : Nat, mI = (m : Int) ∧ (1 ≤ m ∧ m ≤ 3) := by
    simp only [List.mem_cons, List.not_mem_nil, or_false] at hmI
    exact ⟨mI.toNat, by omega, by omega⟩
  subst hm1
  clear hmI hR3 hg3 HNM HBA HU2 HW
  go_wp2
  go_loopg [4] m (fun F i wr => ∃ k : Nat, k + F = m ∧ i = .int .i64 ((m : Int) - (k : Int)) ∧ ∃ us ua uc S, Hid (UnSt w0 br ra rl rc bs w ub rb us ua uc S (K + 1 + 400 * k) wr ∧ us.length = k ∧ ∀ c ∈ us, SmallC 20 c))
  case atStart => exact ⟨0, by omega, by go_num, [], none, 0, _, Lib.hid ⟨HU3.out.more (by omega), rfl, by simp⟩⟩
  case round =>
    obtain ⟨k, hk, rfl, us, ua, uc, S, HR⟩ := hrel
    clear HU3
    by_cases hkm : k < m
    · have hki : (m : Int) - (k : Int) > 0 := by omega
      have hbd := (Below.refl wr.heap.size wr).drew
      have HU5 := Lib.hid (HR.out.1.later hbd)
      have HX := Lib.hid HR.out.2
      have HP := Lib.hid (l7Code_any HU5.out.now hrl (by omega) HU5.out.un HU5.out.sS (by have := HX.out.1; omega) (fun c hc => (HX.out.2 c hc).1))
      obtain ⟨cells, G, hsr⟩ := HU5.out.un
      have HSR := Lib.hid hsr
      have u0 := cell_of_row _ _ 0 _ _ _ HR.out.1.u
      simp only [List.getElem?_toArray, List.getElem?_cons_zero, List.getElem?_cons_succ] at u0
      clear hbd hsr HR
      go_upto_region 5 with fail
      clear u0
      refine wp_region_L (S := fun W : World => W.cell? ⟨ub, 0, none⟩ = some (Value.slice ua us.length uc)) (by kernel_rfl) ?_
      have hHeld : (fun W : World => W.cell? ⟨ub, 0, none⟩ = some (Value.slice ua us.length uc)) _ := cell_of_row _ _ 0 _ _ _ HU5.out.u
      generalize wr.drew = w5 at HU5 HP HSR hHeld ⊢
      refine wpAnyL_take 1 (i := 0) (oi := ⟨some 17, _, _, _, _, _⟩) (v := ?_) rfl (by kernel_rfl) (by kernel_rfl) (by kernel_rfl) (by kernel_rfl) (fun _ _ _ h => h) (Or.inl ⟨by rfl, ?_⟩) hHeld ?_
      rotate_left
      · (intro w hSw; (try dsimp only at hSw); go_simp; all_goals (try with_reducible rfl))
      (try simp only [Act.put, List.setIfInBounds_toArray, List.set_cons_zero, List.set_cons_succ])
      refine wpAnyL_take 6 (i := 1) (oi := ⟨some 18, _, _, _, _, _⟩) (v := ?_) rfl (by kernel_rfl) (by kernel_rfl) (by kernel_rfl) (by kernel_rfl) (fun _ _ _ h => h) (Or.inl ⟨by rfl, ?_⟩) hHeld ?_
      rotate_left
      · (intro w hSw; (try dsimp only at hSw); go_simp; all_goals (try with_reducible rfl))
      (try simp only [Act.put, List.setIfInBounds_toArray, List.set_cons_zero, List.set_cons_succ])
      refine wpAnyL_take 4 (i := 2) (oi := ⟨some 19, _, _, _, _, _⟩) (v := ?_) rfl (by kernel_rfl) (by kernel_rfl) (by kernel_rfl) (by kernel_rfl) (fun _ _ _ h => h) (Or.inl ⟨by rfl, ?_⟩) hHeld ?_
      rotate_left
      · (intro w hSw; (try dsimp only at hSw); go_simp; all_goals (try with_reducible rfl))
      (try simp only [Act.put, List.setIfInBounds_toArray, List.set_cons_zero, List.set_cons_succ])
      refine wpAnyL_take 4 (i := 3) (oi := ⟨some 20, _, _, _, _, _⟩) (v := ?_) rfl (by kernel_rfl) (by kernel_rfl) (by kernel_rfl) (by kernel_rfl) (fun _ _ _ h => h) (Or.inl ⟨by rfl, ?_⟩) hHeld ?_
      rotate_left
      · (intro w hSw; (try dsimp only at hSw); go_simp; all_goals (try with_reducible rfl))
      (try simp only [Act.put, List.setIfInBounds_toArray, List.set_cons_zero, List.set_cons_succ])
      refine wpAnyL_ready (rs := [4]) (by kernel_rfl) (by simp) ?_
      refine AllReadyL.cons (o := ⟨some 21, _, _, _, _, _⟩) rfl (fun K hK => ?_) AllReadyL.nil
      go_simp
      go_at_call 37
      refine HP.out.mono ?_
      rintro e w4 ⟨cs, c, rfl, hck, hcs, hR4⟩
      have hck' := hck
      obtain ⟨ba, bc, rfl, -⟩ := hck'
      have HU4 := Lib.hid (HU5.out.overR hR4.turned (HU5.out.rd.trans hR4))
      have HSR4 := Lib.hid (HU5.out.rows hR4.turned HSR.out)
      have HC := Lib.hid (And.intro hck hcs)
      clear hck hcs hR4
      have hHeld2 : (fun W : World => W.cell? ⟨ub, 0, none⟩ = some (Value.slice ua us.length uc)) _ := cell_of_row _ _ 0 _ _ _ HU4.out.u
      refine hK.out _ _ (fun _ => hHeld2) ?_
      clear hK K hHeld
      have hHeld := hHeld2
      clear hHeld2
      (try simp only [Act.put, List.setIfInBounds_toArray, List.set_cons_zero, List.set_cons_succ])
      refine wpAnyL_ready (rs := [5]) (by kernel_rfl) (by simp) ?_
      refine AllReadyL.cons (o := ⟨some 22, _, _, _, _, _⟩) rfl (fun K hK => ?_) AllReadyL.nil
      go_simp
      have HBA := Lib.hid (show Below w4.heap.size w4 (w4.alloc (.cells #[.int .i64 c.params, .int .i64 c.regs, .slice ba c.blocks.length bc] 37)) from (Below.refl _ _).alloc (Nat.le_refl _) _)
      have HRA := Lib.hid (rowAt_cells w4 [.int .i64 c.params, .int .i64 c.regs, .slice ba c.blocks.length bc] 37)
      have hHeld2 : (fun W : World => W.cell? ⟨ub, 0, none⟩ = some (Value.slice ua us.length uc)) _ := cell_of_row _ _ 0 _ _ _ (HU4.out.later HBA.out).u
      refine hK.out _ _ (fun _ => hHeld2) ?_
      clear hK K hHeld
      have hHeld := hHeld2
      clear hHeld2
      (try simp only [Act.put, List.setIfInBounds_toArray, List.set_cons_zero, List.set_cons_succ])
      obtain ⟨z4, hz4⟩ : ∃ z, z = w4.heap.size := ⟨_, rfl⟩
      rw [← hz4] at HRA
      change Hid (RowAt (w4.alloc (.cells #[.int .i64 c.params, .int .i64 c.regs, .slice ba c.blocks.length bc] 37)) _ _) at HRA
      rw [← hz4]
      generalize (w4.alloc (.cells #[.int .i64 c.params, .int .i64 c.regs, .slice ba c.blocks.length bc] 37)) = w6 at HBA HRA hHeld ⊢
      refine wpAnyL_ready (rs := [6]) (by kernel_rfl) (by simp) ?_
      refine AllReadyL.cons (o := ⟨some 23, _, _, _, _, _⟩) rfl (fun K hK => ?_) AllReadyL.nil
      refine step_app_code rfl (.tmp 18) (.tmp 22) rfl 0 _ us.length _ rfl (ownsRow_below HSR4.out.own HBA.out) _ 1 [.int .i64 c.params, .int .i64 c.regs, .slice ba c.blocks.length bc] rfl HRA.out rfl (by intro u hu; (simp only [List.mem_cons, List.not_mem_nil, or_false] at hu); rcases hu with rfl | rfl | rfl <;> rfl) (by have := HX.out.1; omega) (Nat.zero_le _) ?_
      intro a9 c9 w9 hown9 hg9 hlies9
      have HP9 := Lib.hid (HU4.out.addCode HSR4.out HC.out.1 (fun q hq => (HU5.out.sS q hq).2) ⟨HU5.out.lt.1, HU5.out.lt.2.1, HU5.out.lt.2.2.1⟩ HBA.out hown9 hg9 hlies9)
      clear hown9 hg9 hlies9
      have hHeld2 : (fun W : World => W.cell? ⟨ub, 0, none⟩ = some (Value.slice ua us.length uc)) _ := cell_of_row _ _ 0 _ _ _ HP9.out.1
      refine hK.out _ _ (fun _ => hHeld2) ?_
      clear hK K hHeld
      have hHeld := hHeld2
      clear hHeld2
      (try simp only [Act.put, List.setIfInBounds_toArray, List.set_cons_zero, List.set_cons_succ])
      refine wpAnyL_take 8 (i := 7) (oi := ⟨some 24, _, _, _, _, _⟩) (v := ?_) rfl (by kernel_rfl) (by kernel_rfl) (by kernel_rfl) (by kernel_rfl) (fun _ _ _ h => h) (Or.inl ⟨by rfl, ?_⟩) hHeld ?_
      rotate_left
      · (intro w hSw; (try dsimp only at hSw); go_simp; all_goals (try with_reducible rfl))
      (try simp only [Act.put, List.setIfInBounds_toArray, List.set_cons_zero, List.set_cons_succ])
      refine wpAnyL_ready (rs := [8]) (by kernel_rfl) (by simp) ?_
      refine AllReadyL.cons (o := ⟨none, _, _, _, _, _⟩) rfl (fun K hK => ?_) AllReadyL.nil
      have y0 := frozen_of_row _ _ 0 _ _ HP9.out.1
      have r0 := cell_of_row _ _ 0 _ _ _ HP9.out.1
      simp only [List.getElem?_toArray, List.getElem?_cons_zero, List.getElem?_cons_succ] at r0
      go_simp
      clear y0 r0
      refine hK.out _ _ (lastL (by kernel_rfl)) ?_
      clear hK K hHeld
      (try simp only [Act.put, List.setIfInBounds_toArray, List.set_cons_zero, List.set_cons_succ])
      refine wpAnyL_done (by kernel_rfl) ?_ _
      obtain ⟨Sn, hU9⟩ := HP9.out.2
      have HU9 := Lib.hid (show UnSt w0 br ra rl rc bs w ub rb (us ++ [c]) a9 c9 Sn (K + 1 + 400 * (k + 1)) (w9.setCell ⟨ub, 0, none⟩ (.slice a9 (us.length + 1) c9)) ∧ (us ++ [c]).length = k + 1 ∧ ∀ x ∈ us ++ [c], SmallC 20 x from ⟨hU9.more (by omega), by rw [List.length_append, List.length_singleton, HX.out.1], fun x hx => by
        rcases List.mem_append.1 hx with hx | hx
        · exact HX.out.2 x hx
        · rw [List.mem_singleton.1 hx]; exact HC.out.2⟩)
      clear HP9 hU9 HX HC HU4 HSR4 HSR HP HU5 HBA HRA
      go_wp2
      go_roundg (m - (k + 1))
      case measure => omega
      case rel => exact ⟨k + 1, by omega, by go_num, _, _, _, _, HU9⟩
    · obtain rfl : k = m := by omega
      have hki : ¬ (k : Int) - (k : Int) > 0 := by omega
      go_upto_region 6 with fail
      have HM := Lib.hid hm2
      clear hki hk hkm
      have hba : Below wr.heap.size wr (wr.alloc (.cells (([0, 0, 1, 3] : List Int).map (Value.int .i64)).toArray 3)) := (Below.refl _ _).alloc (Nat.le_refl _) _
      have HNM := Lib.hid (numR (HR.out.1.later hba).rd hrl (by omega) (g := wr.heap.size) (n := 4) (c := 4) (xs := [0, 0, 1, 3]) ⟨rfl, rowAt_of_own (World.ownsRow_lit (base := 0) (size := 1) wr _ 4 (Nat.zero_le _) (by decide) rfl)⟩ (by have := HR.out.1.lt; have := HR.out.1.lo; omega) (by omega))
      have HBA := Lib.hid hba
      clear hba
      go_wp2_with fail
      refine HNM.out.mono ?_
      rintro e w3 ⟨mI, rfl, hmI, hR3, hg3⟩
      have HU3 := Lib.hid (show UnSt w0 br ra rl rc bs w ub rb us ua uc S (K + 1203) w3 ∧ (1 ≤ us.length ∧ us.length ≤ 3) ∧ ∀ c ∈ us, SmallC 20 c from ⟨((HR.out.1.later HBA.out).drew hg3 hR3).more (by have := HM.out; omega), by have := HM.out; have := HR.out.2.1; omega, HR.out.2.2⟩)
      obtain ⟨n, hn1, hn2⟩ : ∃ n : Nat, mI = (n : Int) ∧ n ≤ 3 := by
        simp only [List.mem_cons, List.not_mem_nil, or_false] at hmI
        exact ⟨mI.toNat, by omega, by omega⟩
      subst hn1
      clear hmI hR3 hg3 HNM HBA HR HM hm2
      go_wp2
      go_loopg [5] n (fun F i wr => ∃ k : Nat, k + F = n ∧ i = .int .i64 ((n : Int) - (k : Int)) ∧ ∃ us ua uc S, Hid (UnSt w0 br ra rl rc bs w ub rb us ua uc S (K + 1203 + 20 * k) wr ∧ (1 ≤ us.length ∧ us.length ≤ 3) ∧ ∀ c ∈ us, SmallC (20 + 8 * k) c))
      case atStart => exact ⟨0, by omega, by go_num, _, _, _, _, Lib.hid ⟨HU3.out.1.more (by omega), HU3.out.2.1, HU3.out.2.2⟩⟩
      case round =>
        obtain ⟨k, hk, rfl, us, ua, uc, S, HR⟩ := hrel
        clear HU3
        by_cases hkm : k < n
        · have hki : (n : Int) - (k : Int) > 0 := by omega
          have hbd := (Below.refl wr.heap.size wr).drew
          have HU5 := Lib.hid (HR.out.1.later hbd)
          have HX := Lib.hid HR.out.2
          obtain ⟨g, hg⟩ : ∃ g, ua = some ⟨g, 0, none⟩ := by
            rcases HR.out.1.un.case with ⟨-, h0, -⟩ | h
            · have := HX.out.1; omega
            · exact h
          subst hg
          have HP := Lib.hid (pickR HU5.out.rd hrl (by omega) (n := (us.length : Int)) (by have := HX.out.1; omega))
          have hul := HX.out.1
          have hul2 : (us.length : Int) ≤ 3 := by omega
          clear hbd HR
          go_upto_region 9 with fail
          refine wp_region_L (S := fun W : World => W.cell? ⟨ub, 0, none⟩ = some (Value.slice (some ⟨g, 0, none⟩) us.length uc)) (by kernel_rfl) ?_
          have hHeld : (fun W : World => W.cell? ⟨ub, 0, none⟩ = some (Value.slice (some ⟨g, 0, none⟩) us.length uc)) _ := cell_of_row _ _ 0 _ _ _ HU5.out.u
          generalize wr.drew = w5 at HU5 HP hHeld ⊢
          refine wpAnyL_take 1 (i := 0) (oi := ⟨some 32, _, _, _, _, _⟩) (v := ?_) rfl (by kernel_rfl) (by kernel_rfl) (by kernel_rfl) (by kernel_rfl) (fun _ _ _ h => h) (Or.inl ⟨by rfl, ?_⟩) hHeld ?_
          rotate_left
          · (intro w hSw; (try dsimp only at hSw); go_simp; all_goals (try with_reducible rfl))
          (try simp only [Act.put, List.setIfInBounds_toArray, List.set_cons_zero, List.set_cons_succ])
          refine wpAnyL_take 7 (i := 1) (oi := ⟨some 33, _, _, _, _, _⟩) (v := ?_) rfl (by kernel_rfl) (by kernel_rfl) (by kernel_rfl) (by kernel_rfl) (fun _ _ _ h => h) (Or.inl ⟨by rfl, ?_⟩) hHeld ?_
          rotate_left
          · (intro w hSw; (try dsimp only at hSw); go_simp; all_goals (try with_reducible rfl))
          (try simp only [Act.put, List.setIfInBounds_toArray, List.set_cons_zero, List.set_cons_succ])
          refine wpAnyL_take 6 (i := 2) (oi := ⟨some 34, _, _, _, _, _⟩) (v := ?_) rfl (by kernel_rfl) (by kernel_rfl) (by kernel_rfl) (by kernel_rfl) (fun _ _ _ h => h) (Or.inl ⟨by rfl, ?_⟩) hHeld ?_
          rotate_left
          · (intro w hSw; (try dsimp only at hSw); go_simp; all_goals (try with_reducible rfl))
          (try simp only [Act.put, List.setIfInBounds_toArray, List.set_cons_zero, List.set_cons_succ])
          refine wpAnyL_take 4 (i := 3) (oi := ⟨some 35, _, _, _, _, _⟩) (v := ?_) rfl (by kernel_rfl) (by kernel_rfl) (by kernel_rfl) (by kernel_rfl) (fun _ _ _ h => h) (Or.inl ⟨by rfl, ?_⟩) hHeld ?_
          rotate_left
          · (intro w hSw; (try dsimp only at hSw); go_simp; all_goals (try with_reducible rfl))
          (try simp only [Act.put, List.setIfInBounds_toArray, List.set_cons_zero, List.set_cons_succ])
          refine wpAnyL_take 5 (i := 4) (oi := ⟨some 36, _, _, _, _, _⟩) (v := ?_) rfl (by kernel_rfl) (by kernel_rfl) (by kernel_rfl) (by kernel_rfl) (fun _ _ _ h => h) (Or.inl ⟨by rfl, ?_⟩) hHeld ?_
          rotate_left
          · (intro w hSw; (try dsimp only at hSw); go_simp; all_goals (try with_reducible rfl))
          (try simp only [Act.put, List.setIfInBounds_toArray, List.set_cons_zero, List.set_cons_succ])
          refine wpAnyL_take 6 (i := 5) (oi := ⟨some 37, _, _, _, _, _⟩) (v := ?_) rfl (by kernel_rfl) (by kernel_rfl) (by kernel_rfl) (by kernel_rfl) (fun _ _ _ h => h) (Or.inl ⟨by rfl, ?_⟩) hHeld ?_
          rotate_left
          · (intro w hSw; (try dsimp only at hSw); go_simp; all_goals (try with_reducible rfl))
          (try simp only [Act.put, List.setIfInBounds_toArray, List.set_cons_zero, List.set_cons_succ])
          refine wpAnyL_ready (rs := [6]) (by kernel_rfl) (by simp) ?_
          refine AllReadyL.cons (o := ⟨some 38, _, _, _, _, _⟩) rfl (fun K hK => ?_) AllReadyL.nil
          go_simp
          go_at_call 22
          refine HP.out.mono ?_
          rintro e w4 ⟨jI, rfl, hj, hR4, hg4⟩
          obtain ⟨j, rfl⟩ : ∃ j : Nat, jI = (j : Int) := ⟨jI.toNat, by omega⟩
          have HU4 := Lib.hid (HU5.out.drew hg4 hR4)
          have hj0 := hj.1
          have hj1 := hj.2
          clear hj hR4 hg4
          have hHeld2 : (fun W : World => W.cell? ⟨ub, 0, none⟩ = some (Value.slice (some ⟨g, 0, none⟩) us.length uc)) _ := cell_of_row _ _ 0 _ _ _ HU4.out.u
          refine hK.out _ _ (fun _ => hHeld2) ?_
          clear hK K hHeld
          have hHeld := hHeld2
          clear hHeld2
          (try simp only [Act.put, List.setIfInBounds_toArray, List.set_cons_zero, List.set_cons_succ])
          refine wpAnyL_take 8 (i := 7) (oi := ⟨some 39, _, _, _, _, _⟩) (v := ?_) rfl (by kernel_rfl) (by kernel_rfl) (by kernel_rfl) (by kernel_rfl) (fun _ _ _ h => h) (Or.inl ⟨by rfl, ?_⟩) hHeld ?_
          rotate_left
          · (intro w hSw; (try dsimp only at hSw); go_simp; all_goals (try with_reducible rfl))
          (try simp only [Act.put, List.setIfInBounds_toArray, List.set_cons_zero, List.set_cons_succ])
          refine wpAnyL_ready (rs := [8]) (by kernel_rfl) (by simp) ?_
          refine AllReadyL.cons (o := ⟨some 6, _, _, _, _, _⟩) rfl (fun K hK => ?_) AllReadyL.nil
          go_simp
          refine hK.out _ _ (lastL (by kernel_rfl)) ?_
          clear hK K hHeld
          (try simp only [Act.put, List.setIfInBounds_toArray, List.set_cons_zero, List.set_cons_succ])
          refine wpAnyL_done (by kernel_rfl) ?_ _
          have hjl : j < us.length := by omega
          obtain ⟨x, hx⟩ : ∃ x, us[j]? = some x := ⟨_, List.getElem?_eq_getElem hjl⟩
          have HJ := Lib.hid hx
          have HSX := Lib.hid (HX.out.2 x (List.mem_of_getElem? hx))
          obtain ⟨ba4, bc4, -, -, c2, -⟩ := HU4.out.code rfl hx
          have hbl := HSX.out.2.2.1
          have hrg := HSX.out.2.1
          clear HP HU5 hx hul hul2 hj0 hj1 hjl
          go_wp2_with fail
          refine (pickR HU4.out.rd hrl (by omega) (n := (x.blocks.length : Int)) (by omega)).mono ?_
          rintro e w5 ⟨bI, rfl, hb, hR5, hg5⟩
          obtain ⟨b, rfl⟩ : ∃ b : Nat, bI = (b : Int) := ⟨bI.toNat, by omega⟩
          have HU5 := Lib.hid (HU4.out.drew hg5 hR5)
          have hb0 := hb.1
          have hb1 := hb.2
          clear hb hR5 hg5 c2 HU4
          obtain ⟨ba5, bc5, -, c1, -, -⟩ := HU5.out.code rfl HJ.out
          go_wp2_with fail
          refine (pickR HU5.out.rd hrl (by omega) (n := x.regs) (by omega)).mono ?_
          rintro e w6 ⟨tq, rfl, htq, hR6, hg6⟩
          have HP7 := Lib.hid (PhSt.start (HU5.out.drew hg6 hR6) tq)
          obtain ⟨pb, hpb⟩ : ∃ b, b = w6.heap.size := ⟨_, rfl⟩
          rw [← hpb] at HP7
          clear c1 htq hR6 hg6 HU5
          go_upto_region 12 with fail
          rw [← hpb]
          generalize w6.alloc (.cells #[.int .i64 tq, .slice none 0 0] 78) = w7 at HP7 ⊢
          clear hpb
          obtain ⟨ba7, bc7, L, c0, c1, c2, hL7, hPC⟩ := HP7.out.un.pred7 rfl HJ.out HSX.out (by omega) (b : Int)
          have HPC := Lib.hid hPC
          clear hPC
          go_wp2_with fail
          refine HPC.out.mono ?_
          rintro e w8 ⟨a8, c8, rfl, hb8⟩
          have HP8 := Lib.hid (HP7.out.later hb8)
          clear c0 c1 c2 hb8 HPC HP7
          go_wp2
          go_loopg [60] L (fun F i wr => ∃ q : Nat, q + F = L ∧ i = .int .i64 q ∧ ∃ xs aa ac, Hid (PhSt w0 br ra rl rc bs w ub rb us (some ⟨g, 0, none⟩) uc S (K + 1206 + 20 * k + q) pb tq xs aa q ac wr))
          case atStart => exact ⟨0, by omega, rfl, _, _, _, Lib.hid (HP8.out.more (by omega))⟩
          case round =>
            obtain ⟨q, hq, rfl, xs, aa, ac, HA⟩ := hrel
            clear HP8
            by_cases hql : q < L
            · have hqi : (q : Int) < (L : Int) := by omega
              have hbd := (Below.refl wr.heap.size wr).drew
              have HA5 := Lib.hid (HA.out.later hbd)
              have HPK := Lib.hid (pickR HA5.out.un.rd hrl (by omega) (n := x.regs) (by omega))
              clear hbd HA
              go_upto_region 14 with fail
              refine wp_region_L (S := fun W : World => W.cell? ⟨g, j * 3 + 1, none⟩ = some (Value.int .i64 x.regs) ∧ W.cell? ⟨pb, 1, none⟩ = some (Value.slice aa q ac)) (by kernel_rfl) ?_
              have hHeld : (fun W : World => W.cell? ⟨g, j * 3 + 1, none⟩ = some (Value.int .i64 x.regs) ∧ W.cell? ⟨pb, 1, none⟩ = some (Value.slice aa q ac)) _ := HA5.out.held rfl HJ.out
              generalize wr.drew = w5 at HA5 HPK hHeld ⊢
              refine wpAnyL_take 1 (i := 0) (oi := ⟨some 62, _, _, _, _, _⟩) (v := ?_) rfl (by kernel_rfl) (by kernel_rfl) (by kernel_rfl) (by kernel_rfl) (fun _ _ _ h => h) (Or.inl ⟨by rfl, ?_⟩) hHeld ?_
              rotate_left
              · (intro w hSw; (try dsimp only at hSw); go_simp; all_goals (try with_reducible rfl))
              (try simp only [Act.put, List.setIfInBounds_toArray, List.set_cons_zero, List.set_cons_succ])
              refine wpAnyL_take 9 (i := 1) (oi := ⟨some 63, _, _, _, _, _⟩) (v := ?_) rfl (by kernel_rfl) (by kernel_rfl) (by kernel_rfl) (by kernel_rfl) (fun _ _ _ h => h) (Or.inl ⟨by rfl, ?_⟩) hHeld ?_
              rotate_left
              · (intro w hSw; (try dsimp only at hSw); go_simp; all_goals (try with_reducible rfl))
              (try simp only [Act.put, List.setIfInBounds_toArray, List.set_cons_zero, List.set_cons_succ])
              refine wpAnyL_take 7 (i := 2) (oi := ⟨some 64, _, _, _, _, _⟩) (v := ?_) rfl (by kernel_rfl) (by kernel_rfl) (by kernel_rfl) (by kernel_rfl) (fun _ _ _ h => h) (Or.inl ⟨by rfl, ?_⟩) hHeld ?_
              rotate_left
              · (intro w hSw; (try dsimp only at hSw); go_simp; all_goals (try with_reducible rfl))
              (try simp only [Act.put, List.setIfInBounds_toArray, List.set_cons_zero, List.set_cons_succ])
              refine wpAnyL_take 4 (i := 3) (oi := ⟨some 65, _, _, _, _, _⟩) (v := ?_) rfl (by kernel_rfl) (by kernel_rfl) (by kernel_rfl) (by kernel_rfl) (fun _ _ _ h => h) (Or.inl ⟨by rfl, ?_⟩) hHeld ?_
              rotate_left
              · (intro w hSw; (try dsimp only at hSw); go_simp; all_goals (try with_reducible rfl))
              (try simp only [Act.put, List.setIfInBounds_toArray, List.set_cons_zero, List.set_cons_succ])
              refine wpAnyL_take 5 (i := 4) (oi := ⟨some 66, _, _, _, _, _⟩) (v := ?_) rfl (by kernel_rfl) (by kernel_rfl) (by kernel_rfl) (by kernel_rfl) (fun _ _ _ h => h) (Or.inl ⟨by rfl, ?_⟩) hHeld ?_
              rotate_left
              · (intro w hSw; (try dsimp only at hSw); go_simp; all_goals (try with_reducible rfl))
              (try simp only [Act.put, List.setIfInBounds_toArray, List.set_cons_zero, List.set_cons_succ])
              refine wpAnyL_take 6 (i := 5) (oi := ⟨some 67, _, _, _, _, _⟩) (v := ?_) rfl (by kernel_rfl) (by kernel_rfl) (by kernel_rfl) (by kernel_rfl) (fun _ _ _ h => h) (Or.inl ⟨by rfl, ?_⟩) hHeld ?_
              rotate_left
              · (intro w hSw; (try dsimp only at hSw); go_simp; all_goals (try with_reducible rfl))
              (try simp only [Act.put, List.setIfInBounds_toArray, List.set_cons_zero, List.set_cons_succ])
              refine wpAnyL_take 7 (i := 6) (oi := ⟨some 68, _, _, _, _, _⟩) (v := ?_) rfl (by kernel_rfl) (by kernel_rfl) (by kernel_rfl) (by kernel_rfl) (fun _ _ _ h => h) (Or.inl ⟨by rfl, ?_⟩) hHeld ?_
              rotate_left
              · (intro w hSw; (try dsimp only at hSw); go_simp; all_goals (try with_reducible rfl))
              (try simp only [Act.put, List.setIfInBounds_toArray, List.set_cons_zero, List.set_cons_succ])
              refine wpAnyL_ready (rs := [7]) (by kernel_rfl) (by simp) ?_
              refine AllReadyL.cons (o := ⟨some 69, _, _, _, _, _⟩) rfl (fun K hK => ?_) AllReadyL.nil
              go_simp
              go_at_call 22
              refine HPK.out.mono ?_
              rintro e w4 ⟨v, rfl, hv, hR4, hg4⟩
              have HA4 := Lib.hid (HA5.out.drew hg4 hR4)
              clear hv hR4 hg4
              have hHeld2 : (fun W : World => W.cell? ⟨g, j * 3 + 1, none⟩ = some (Value.int .i64 x.regs) ∧ W.cell? ⟨pb, 1, none⟩ = some (Value.slice aa q ac)) _ := HA4.out.held rfl HJ.out
              refine hK.out _ _ (fun _ => hHeld2) ?_
              clear hK K hHeld
              have hHeld := hHeld2
              clear hHeld2
              (try simp only [Act.put, List.setIfInBounds_toArray, List.set_cons_zero, List.set_cons_succ])
              refine wpAnyL_ready (rs := [8]) (by kernel_rfl) (by simp) ?_
              refine AllReadyL.cons (o := ⟨some 70, _, _, _, _, _⟩) rfl (fun K hK => ?_) AllReadyL.nil
              go_simp
              have HBA := Lib.hid (show Below w4.heap.size w4 (w4.alloc (.cells #[.int .i64 v] 3)) from (Below.refl _ _).alloc (Nat.le_refl _) _)
              have hHeld2 : (fun W : World => W.cell? ⟨g, j * 3 + 1, none⟩ = some (Value.int .i64 x.regs) ∧ W.cell? ⟨pb, 1, none⟩ = some (Value.slice aa q ac)) _ := (HA4.out.later HBA.out).held rfl HJ.out
              refine hK.out _ _ (fun _ => hHeld2) ?_
              clear hK K hHeld
              have hHeld := hHeld2
              clear hHeld2
              (try simp only [Act.put, List.setIfInBounds_toArray, List.set_cons_zero, List.set_cons_succ])
              refine wpAnyL_ready (rs := [9]) (by kernel_rfl) (by simp) ?_
              refine AllReadyL.cons (o := ⟨some 71, _, _, _, _, _⟩) rfl (fun K hK => ?_) AllReadyL.nil
              refine step_app_ints rfl (.tmp 63) (.tmp 70) rfl 0 _ q _ rfl (ownsRow_below HA4.out.own HBA.out) _ 1 1 [v] rfl rfl (rowAt_one _ _ _) (by rintro ⟨⟩) (by omega) (Nat.zero_le _) ?_
              intro a9 c9 w9 hown9 hg9 hlies9
              have HP9 := Lib.hid (HA4.out.put HBA.out hown9 hg9 hlies9)
              clear hown9 hg9 hlies9
              have hHeld2 : (fun W : World => W.cell? ⟨g, j * 3 + 1, none⟩ = some (Value.int .i64 x.regs) ∧ W.cell? ⟨pb, 1, none⟩ = some (Value.slice aa q ac)) _ := ⟨by obtain ⟨_, _, _, h1, _⟩ := HP9.out.2.1.code rfl HJ.out; exact h1, cell_of_row _ _ 1 _ _ _ HP9.out.1⟩
              refine hK.out _ _ (fun _ => hHeld2) ?_
              clear hK K hHeld
              have hHeld := hHeld2
              clear hHeld2
              (try simp only [Act.put, List.setIfInBounds_toArray, List.set_cons_zero, List.set_cons_succ])
              refine wpAnyL_take 11 (i := 10) (oi := ⟨some 72, _, _, _, _, _⟩) (v := ?_) rfl (by kernel_rfl) (by kernel_rfl) (by kernel_rfl) (by kernel_rfl) (fun _ _ _ h => h) (Or.inl ⟨by rfl, ?_⟩) hHeld ?_
              rotate_left
              · (intro w hSw; (try dsimp only at hSw); go_simp; all_goals (try with_reducible rfl))
              (try simp only [Act.put, List.setIfInBounds_toArray, List.set_cons_zero, List.set_cons_succ])
              refine wpAnyL_ready (rs := [11]) (by kernel_rfl) (by simp) ?_
              refine AllReadyL.cons (o := ⟨none, _, _, _, _, _⟩) rfl (fun K hK => ?_) AllReadyL.nil
              have y0 := frozen_of_row _ _ 1 _ _ HP9.out.1
              have r0 := cell_of_row _ _ 1 _ _ _ HP9.out.1
              simp only [List.getElem?_toArray, List.getElem?_cons_zero, List.getElem?_cons_succ] at r0
              go_simp
              clear y0 r0
              refine hK.out _ _ (lastL (by kernel_rfl)) ?_
              clear hK K hHeld
              (try simp only [Act.put, List.setIfInBounds_toArray, List.set_cons_zero, List.set_cons_succ])
              refine wpAnyL_done (by kernel_rfl) ?_ _
              have HN := Lib.hid (HP9.out.2.2.more (K' := K + 1206 + 20 * k + (q + 1)) (by omega))
              clear HP9 HA4 HBA HPK HA5
              go_wp2
              go_roundg (L - (q + 1))
              case measure => omega
              case rel => exact ⟨q + 1, by omega, by go_num, _, _, _, HN⟩
            · obtain rfl : q = L := by omega
              have hqi : ¬ (q : Int) < (q : Int) := by omega
              by_cases hbp : b > 0
              · have hbi : (b : Int) > 0 := by omega
                have hbx : b < x.blocks.length := by omega
                have hbd := (Below.refl wr.heap.size wr).drew
                have HA5 := Lib.hid (HA.out.later hbd)
                obtain ⟨y, hy⟩ : ∃ y, x.blocks[b]? = some y := ⟨_, List.getElem?_eq_getElem hbx⟩
                have HY := Lib.hid hy
                obtain ⟨g', gb, bc5, pa, pc, cells, G, S1, hgg, hgl, hgb, e0, e1, hrw, hcl⟩ := HA5.out.un.addPhi (lo0 := pb) HJ.out hy HA5.out.lt.1 ⟨HA5.out.lt.2.1, HA5.out.lt.2.2.1, HA5.out.lt.2.2.2.1, Nat.le_of_lt (Array.getElem?_eq_some_iff.1 HA5.out.p).1⟩
                cases hgg
                have hym : y.phis.length ≤ 1048576 := by have h1 := HSX.out.2.2.2 y (List.mem_of_getElem? hy); unfold szBlockD szS at h1; omega
                have HRW := Lib.hid hrw
                have HCL := Lib.hid hcl
                have HE := Lib.hid (And.intro e0 e1)
                clear hy hgl hgb e0 e1 hrw hcl hbd HA
                go_upto_region 17 with fail
                refine wp_region_L (S := fun W : World => W.cell? ⟨g, j * 3 + 2, none⟩ = some (Value.slice (some ⟨gb, 0, none⟩) x.blocks.length bc5) ∧ W.cell? ⟨gb, b * 5, none⟩ = some (Value.slice pa y.phis.length pc) ∧ W.cell? ⟨pb, 0, none⟩ = some (Value.int .i64 tq) ∧ W.cell? ⟨pb, 1, none⟩ = some (Value.slice aa q ac)) (by kernel_rfl) ?_
                have hHeld : (fun W : World => W.cell? ⟨g, j * 3 + 2, none⟩ = some (Value.slice (some ⟨gb, 0, none⟩) x.blocks.length bc5) ∧ W.cell? ⟨gb, b * 5, none⟩ = some (Value.slice pa y.phis.length pc) ∧ W.cell? ⟨pb, 0, none⟩ = some (Value.int .i64 tq) ∧ W.cell? ⟨pb, 1, none⟩ = some (Value.slice aa q ac)) _ := ⟨HE.out.1, HE.out.2, cell_of_row _ _ 0 _ _ _ HA5.out.p, cell_of_row _ _ 1 _ _ _ HA5.out.p⟩
                generalize wr.drew = w5 at HA5 HRW HCL HE hHeld ⊢
                refine wpAnyL_take 1 (i := 0) (oi := ⟨some 76, _, _, _, _, _⟩) (v := ?_) rfl (by kernel_rfl) (by kernel_rfl) (by kernel_rfl) (by kernel_rfl) (fun _ _ _ h => h) (Or.inl ⟨by rfl, ?_⟩) hHeld ?_
                rotate_left
                · (intro w hSw; (try dsimp only at hSw); go_simp; all_goals (try with_reducible rfl))
                (try simp only [Act.put, List.setIfInBounds_toArray, List.set_cons_zero, List.set_cons_succ])
                refine wpAnyL_take 2 (i := 1) (oi := ⟨some 77, _, _, _, _, _⟩) (v := ?_) rfl (by kernel_rfl) (by kernel_rfl) (by kernel_rfl) (by kernel_rfl) (fun _ _ _ h => h) (Or.inl ⟨by rfl, ?_⟩) hHeld ?_
                rotate_left
                · (intro w hSw; (try dsimp only at hSw); go_simp; all_goals (try with_reducible rfl))
                (try simp only [Act.put, List.setIfInBounds_toArray, List.set_cons_zero, List.set_cons_succ])
                refine wpAnyL_take 3 (i := 2) (oi := ⟨some 78, _, _, _, _, _⟩) (v := ?_) rfl (by kernel_rfl) (by kernel_rfl) (by kernel_rfl) (by kernel_rfl) (fun _ _ _ h => h) (Or.inl ⟨by rfl, ?_⟩) hHeld ?_
                rotate_left
                · (intro w hSw; (try dsimp only at hSw); go_simp; all_goals (try with_reducible rfl))
                (try simp only [Act.put, List.setIfInBounds_toArray, List.set_cons_zero, List.set_cons_succ])
                refine wpAnyL_take 16 (i := 3) (oi := ⟨some 79, _, _, _, _, _⟩) (v := ?_) rfl (by kernel_rfl) (by kernel_rfl) (by kernel_rfl) (by kernel_rfl) (fun _ _ _ h => h) (Or.inl ⟨by rfl, ?_⟩) hHeld ?_
                rotate_left
                · (intro w hSw; (try dsimp only at hSw); go_simp; all_goals (try with_reducible rfl))
                (try simp only [Act.put, List.setIfInBounds_toArray, List.set_cons_zero, List.set_cons_succ])
                refine wpAnyL_take 16 (i := 4) (oi := ⟨some 80, _, _, _, _, _⟩) (v := ?_) rfl (by kernel_rfl) (by kernel_rfl) (by kernel_rfl) (by kernel_rfl) (fun _ _ _ h => h) (Or.inl ⟨by rfl, ?_⟩) hHeld ?_
                rotate_left
                · (intro w hSw; (try dsimp only at hSw); go_simp; all_goals (try with_reducible rfl))
                (try simp only [Act.put, List.setIfInBounds_toArray, List.set_cons_zero, List.set_cons_succ])
                refine wpAnyL_take 6 (i := 5) (oi := ⟨some 81, _, _, _, _, _⟩) (v := ?_) rfl (by kernel_rfl) (by kernel_rfl) (by kernel_rfl) (by kernel_rfl) (fun _ _ _ h => h) (Or.inl ⟨by rfl, ?_⟩) hHeld ?_
                rotate_left
                · (intro w hSw; (try dsimp only at hSw); go_simp; all_goals (try with_reducible rfl))
                (try simp only [Act.put, List.setIfInBounds_toArray, List.set_cons_zero, List.set_cons_succ])
                refine wpAnyL_take 7 (i := 6) (oi := ⟨some 82, _, _, _, _, _⟩) (v := ?_) rfl (by kernel_rfl) (by kernel_rfl) (by kernel_rfl) (by kernel_rfl) (fun _ _ _ h => h) (Or.inl ⟨by rfl, ?_⟩) hHeld ?_
                rotate_left
                · (intro w hSw; (try dsimp only at hSw); go_simp; all_goals (try with_reducible rfl))
                (try simp only [Act.put, List.setIfInBounds_toArray, List.set_cons_zero, List.set_cons_succ])
                refine wpAnyL_take 8 (i := 7) (oi := ⟨some 83, _, _, _, _, _⟩) (v := ?_) rfl (by kernel_rfl) (by kernel_rfl) (by kernel_rfl) (by kernel_rfl) (fun _ _ _ h => h) (Or.inl ⟨by rfl, ?_⟩) hHeld ?_
                rotate_left
                · (intro w hSw; (try dsimp only at hSw); go_simp; all_goals (try with_reducible rfl))
                (try simp only [Act.put, List.setIfInBounds_toArray, List.set_cons_zero, List.set_cons_succ])
                refine wpAnyL_take 10 (i := 8) (oi := ⟨some 84, _, _, _, _, _⟩) (v := ?_) rfl (by kernel_rfl) (by kernel_rfl) (by kernel_rfl) (by kernel_rfl) (fun _ _ _ h => h) (Or.inl ⟨by rfl, ?_⟩) hHeld ?_
                rotate_left
                · (intro w hSw; (try dsimp only at hSw); go_simp; all_goals (try with_reducible rfl))
                (try simp only [Act.put, List.setIfInBounds_toArray, List.set_cons_zero, List.set_cons_succ])
                refine wpAnyL_take 10 (i := 9) (oi := ⟨some 85, _, _, _, _, _⟩) (v := ?_) rfl (by kernel_rfl) (by kernel_rfl) (by kernel_rfl) (by kernel_rfl) (fun _ _ _ h => h) (Or.inl ⟨by rfl, ?_⟩) hHeld ?_
                rotate_left
                · (intro w hSw; (try dsimp only at hSw); go_simp; all_goals (try with_reducible rfl))
                (try simp only [Act.put, List.setIfInBounds_toArray, List.set_cons_zero, List.set_cons_succ])
                refine wpAnyL_take 11 (i := 10) (oi := ⟨some 86, _, _, _, _, _⟩) (v := ?_) rfl (by kernel_rfl) (by kernel_rfl) (by kernel_rfl) (by kernel_rfl) (fun _ _ _ h => h) (Or.inl ⟨by rfl, ?_⟩) hHeld ?_
                rotate_left
                · (intro w hSw; (try dsimp only at hSw); go_simp; all_goals (try with_reducible rfl))
                (try simp only [Act.put, List.setIfInBounds_toArray, List.set_cons_zero, List.set_cons_succ])
                refine wpAnyL_take 12 (i := 11) (oi := ⟨some 87, _, _, _, _, _⟩) (v := ?_) rfl (by kernel_rfl) (by kernel_rfl) (by kernel_rfl) (by kernel_rfl) (fun _ _ _ h => h) (Or.inl ⟨by rfl, ?_⟩) hHeld ?_
                rotate_left
                · (intro w hSw; (try dsimp only at hSw); go_simp; all_goals (try with_reducible rfl))
                (try simp only [Act.put, List.setIfInBounds_toArray, List.set_cons_zero, List.set_cons_succ])
                refine wpAnyL_take 15 (i := 12) (oi := ⟨some 88, _, _, _, _, _⟩) (v := ?_) rfl (by kernel_rfl) (by kernel_rfl) (by kernel_rfl) (by kernel_rfl) (fun _ _ _ h => h) (Or.inl ⟨by rfl, ?_⟩) hHeld ?_
                rotate_left
                · (intro w hSw; (try dsimp only at hSw); go_simp; all_goals (try with_reducible rfl))
                (try simp only [Act.put, List.setIfInBounds_toArray, List.set_cons_zero, List.set_cons_succ])
                refine wpAnyL_take 14 (i := 13) (oi := ⟨some 89, _, _, _, _, _⟩) (v := ?_) rfl (by kernel_rfl) (by kernel_rfl) (by kernel_rfl) (by kernel_rfl) (fun _ _ _ h => h) (Or.inl ⟨by rfl, ?_⟩) hHeld ?_
                rotate_left
                · (intro w hSw; (try dsimp only at hSw); go_simp; all_goals (try with_reducible rfl))
                (try simp only [Act.put, List.setIfInBounds_toArray, List.set_cons_zero, List.set_cons_succ])
                refine wpAnyL_ready (rs := [14]) (by kernel_rfl) (by simp) ?_
                refine AllReadyL.cons (o := ⟨some 90, _, _, _, _, _⟩) rfl (fun K hK => ?_) AllReadyL.nil
                go_simp
                have HBA := Lib.hid (show Below w5.heap.size w5 (w5.alloc (.cells #[.int .i64 tq, .slice aa q ac] 78)) from (Below.refl _ _).alloc (Nat.le_refl _) _)
                have HRA := Lib.hid (rowAt_cells w5 [.int .i64 tq, .slice aa q ac] 78)
                have hHeld2 : (fun W : World => W.cell? ⟨g, j * 3 + 2, none⟩ = some (Value.slice (some ⟨gb, 0, none⟩) x.blocks.length bc5) ∧ W.cell? ⟨gb, b * 5, none⟩ = some (Value.slice pa y.phis.length pc) ∧ W.cell? ⟨pb, 0, none⟩ = some (Value.int .i64 tq) ∧ W.cell? ⟨pb, 1, none⟩ = some (Value.slice aa q ac)) _ := ⟨cell_later HBA.out HE.out.1, cell_later HBA.out HE.out.2, cell_of_row _ _ 0 _ _ _ (HA5.out.later HBA.out).p, cell_of_row _ _ 1 _ _ _ (HA5.out.later HBA.out).p⟩
                refine hK.out _ _ (fun _ => hHeld2) ?_
                clear hK K hHeld
                have hHeld := hHeld2
                clear hHeld2
                (try simp only [Act.put, List.setIfInBounds_toArray, List.set_cons_zero, List.set_cons_succ])
                obtain ⟨z4, hz4⟩ : ∃ z, z = w5.heap.size := ⟨_, rfl⟩
                rw [← hz4] at HRA
                change Hid (RowAt (w5.alloc (.cells #[.int .i64 tq, .slice aa q ac] 78)) _ _) at HRA
                rw [← hz4]
                generalize (w5.alloc (.cells #[.int .i64 tq, .slice aa q ac] 78)) = w6 at HBA HRA hHeld ⊢
                refine wpAnyL_ready (rs := [15]) (by kernel_rfl) (by simp) ?_
                refine AllReadyL.cons (o := ⟨some 91, _, _, _, _, _⟩) rfl (fun K hK => ?_) AllReadyL.nil
                refine step_app_phi rfl (.tmp 88) (.tmp 90) rfl 0 _ y.phis.length _ rfl (ownsRow_below HRW.out.own HBA.out) _ 1 [.int .i64 tq, .slice aa q ac] rfl HRA.out rfl (by intro u hu; (simp only [List.mem_cons, List.not_mem_nil, or_false] at hu); rcases hu with rfl | rfl <;> rfl) (by omega) (Nat.zero_le _) ?_
                intro a9 c9 w9 hown9 hg9 hlies9
                have HP9 := Lib.hid (HCL.out _ _ a9 c9 _ _ HBA.out HA5.out.phi hown9 hg9 hlies9)
                have hpl := (Array.getElem?_eq_some_iff.1 HA5.out.p).1
                have hp9 := (HP9.out.2.2.2.1 pb (Nat.le_refl _) hpl).trans HA5.out.p
                clear hown9 hg9 hlies9 hpl
                have hHeld2 : (fun W : World => W.cell? ⟨g, j * 3 + 2, none⟩ = some (Value.slice (some ⟨gb, 0, none⟩) x.blocks.length bc5) ∧ W.cell? ⟨gb, b * 5, none⟩ = some (Value.slice pa y.phis.length pc) ∧ W.cell? ⟨pb, 0, none⟩ = some (Value.int .i64 tq) ∧ W.cell? ⟨pb, 1, none⟩ = some (Value.slice aa q ac)) _ := ⟨HP9.out.2.1.1, HP9.out.2.1.2, cell_of_row _ _ 0 _ _ _ hp9, cell_of_row _ _ 1 _ _ _ hp9⟩
                refine hK.out _ _ (fun _ => hHeld2) ?_
                clear hK K hHeld
                have hHeld := hHeld2
                clear hHeld2
                (try simp only [Act.put, List.setIfInBounds_toArray, List.set_cons_zero, List.set_cons_succ])
                refine wpAnyL_take 17 (i := 16) (oi := ⟨some 92, _, _, _, _, _⟩) (v := ?_) rfl (by kernel_rfl) (by kernel_rfl) (by kernel_rfl) (by kernel_rfl) (fun _ _ _ h => h) (Or.inl ⟨by rfl, ?_⟩) hHeld ?_
                rotate_left
                · (intro w hSw; (try dsimp only at hSw); go_simp; all_goals (try with_reducible rfl))
                (try simp only [Act.put, List.setIfInBounds_toArray, List.set_cons_zero, List.set_cons_succ])
                refine wpAnyL_take 18 (i := 17) (oi := ⟨some 93, _, _, _, _, _⟩) (v := ?_) rfl (by kernel_rfl) (by kernel_rfl) (by kernel_rfl) (by kernel_rfl) (fun _ _ _ h => h) (Or.inl ⟨by rfl, ?_⟩) hHeld ?_
                rotate_left
                · (intro w hSw; (try dsimp only at hSw); go_simp; all_goals (try with_reducible rfl))
                (try simp only [Act.put, List.setIfInBounds_toArray, List.set_cons_zero, List.set_cons_succ])
                refine wpAnyL_ready (rs := [18]) (by kernel_rfl) (by simp) ?_
                refine AllReadyL.cons (o := ⟨none, _, _, _, _, _⟩) rfl (fun K hK => ?_) AllReadyL.nil
                have y0 := HP9.out.2.2.1
                have r0 := HP9.out.2.1.2
                go_simp
                clear y0 r0
                refine hK.out _ _ (lastL (by kernel_rfl)) ?_
                clear hK K hHeld
                (try simp only [Act.put, List.setIfInBounds_toArray, List.set_cons_zero, List.set_cons_succ])
                refine wpAnyL_done (by kernel_rfl) ?_ _
                obtain ⟨Sn, hU9⟩ := HP9.out.2.2.2.2
                have HU9 := Lib.hid (And.intro (hU9.more (K' := K + 1203 + 20 * (k + 1)) (by omega)) (And.intro (show 1 ≤ (us.set j ⟨x.params, x.regs, x.blocks.set b ⟨y.phis ++ [⟨tq, xs⟩], y.ins, y.jump, y.jon, y.nx⟩⟩).length ∧ (us.set j ⟨x.params, x.regs, x.blocks.set b ⟨y.phis ++ [⟨tq, xs⟩], y.ins, y.jump, y.jon, y.nx⟩⟩).length ≤ 3 from by rw [List.length_set]; exact HX.out.1) (show ∀ c ∈ us.set j ⟨x.params, x.regs, x.blocks.set b ⟨y.phis ++ [⟨tq, xs⟩], y.ins, y.jump, y.jon, y.nx⟩⟩, SmallC (20 + 8 * (k + 1)) c from by
                  rw [show 20 + 8 * (k + 1) = 20 + 8 * k + 8 by omega]
                  exact small_phi HX.out.2 HJ.out HY.out (by have := HA5.out.len; show xs.length ≤ 7; omega))))
                clear HP9 hU9 hp9 HX HA5 HRW HCL HE HY HJ HSX HBA HRA
                go_wp2
                go_roundg (n - (k + 1))
                case measure => omega
                case rel => exact ⟨k + 1, by omega, by go_num, _, _, _, _, HU9⟩
              · obtain rfl : b = 0 := by omega
                have HU9 := Lib.hid (show UnSt w0 br ra rl rc bs w ub rb us (some ⟨g, 0, none⟩) uc S (K + 1203 + 20 * (k + 1)) wr ∧ (1 ≤ us.length ∧ us.length ≤ 3) ∧ ∀ c ∈ us, SmallC (20 + 8 * (k + 1)) c from ⟨HA.out.un.more (by omega), HX.out.1, fun c hc => by
                  have h1 := HX.out.2 c hc
                  exact ⟨h1.1, h1.2.1, h1.2.2.1, fun z hz => by have := h1.2.2.2 z hz; omega⟩⟩)
                clear HX HA HJ HSX hbp
                go_wp2
                go_roundg (n - (k + 1))
                case measure => omega
                case rel => exact ⟨k + 1, by omega, by go_num, _, _, _, _, HU9⟩
        · obtain rfl : k = n := by omega
          have hki : ¬ (k : Int) - (k : Int) > 0 := by omega
          have x0 := cell_of_row _ _ 0 _ _ _ HR.out.1.u
          have r0 := cell_of_row _ _ 0 _ _ _ HR.out.1.r
          have y0 := frozen_of_row _ _ 0 _ _ HR.out.1.r
          simp only [List.getElem?_toArray, List.getElem?_cons_zero, List.getElem?_cons_succ] at x0 r0
          go_wp2
          refine bodyPost_ret (results_cell_row rfl _ _ rb 25 #[.slice ua us.length uc] (0, 0) _ rfl ?_ Try.underlying25 rfl (by kernel_rfl)) rfl ?_
          · exact (heap_setCell_same wr rb 0 _ _ _ HR.out.1.r).trans rfl
          · exact HR.out.1.fin (turned_store wr rb 0 _) HR.out.2.1 (fun c hc => by
              have h1 := HR.out.2.2 c hc
              exact ⟨h1.1, h1.2.1, h1.2.2.1, fun z hz => by have := h1.2.2.2 z hz; omega⟩) (by omega)
end

end Go.Proofs.Ytajnldkempeheaa
