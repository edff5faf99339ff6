/-
  How many statements there are, and how deep they are nested (the program's): stmts, measure.
-/
import Derived.Test.YtccdmgncjlpebaaDoorVi
import Derived.Test.YtccdmgncjlpebaaDoorVq

namespace Go.Proofs.YtccdmgncjlpebaaDoor
open Go.RowKit
set_option linter.unusedVariables false

/-- The two counters lie in blocks of their own. -/
structure MeasSt (lo cb db : Nat) (n m : Nat) (w : World) : Prop where
  lt : lo ≤ cb ∧ lo ≤ db ∧ cb ≠ db
  c : w.heap[cb]? = some (.cells #[.int .i64 (n : Int)] 3 (0, 0))
  d : w.heap[db]? = some (.cells #[.int .i64 (m : Int)] 3 (0, 0))
def TurnM (cb db : Nat) (w w' : World) : Prop := Turned (fun b => b = cb ∨ b = db ∨ w.heap.size ≤ b) w w'
theorem TurnM.refl (cb db : Nat) (w : World) : TurnM cb db w w := Turned.refl _ w
theorem TurnM.trans {cb db : Nat} {a b c : World} (h : TurnM cb db a b) (k : TurnM cb db b c) : TurnM cb db a c :=
  Turned.trans h (Turned.mono (T := fun i => i = cb ∨ i = db ∨ a.heap.size ≤ i) k (fun i hi => by have := h.size; omega))
theorem TurnM.below {cb db : Nat} {w w' : World} (hb : Below w.heap.size w w') : TurnM cb db w w' := turned_of_below hb (fun k h1 h2 => .inr (.inr h1))
section
variable {lo cb db n m : Nat} {w w' : World}
theorem MeasSt.lts (h : MeasSt lo cb db n m w) : cb < w.heap.size ∧ db < w.heap.size := ⟨(Array.getElem?_eq_some_iff.1 h.c).1, (Array.getElem?_eq_some_iff.1 h.d).1⟩
theorem MeasSt.later (h : MeasSt lo cb db n m w) (hb : Below w.heap.size w w') : MeasSt lo cb db n m w' :=
  ⟨h.lt, (hb.block _ h.lts.1).trans h.c, (hb.block _ h.lts.2).trans h.d⟩
theorem MeasSt.putC (h : MeasSt lo cb db n m w) (n' : Nat) : MeasSt lo cb db n' m (w.setCell ⟨cb, 0, none⟩ (.int .i64 (n' : Int))) ∧ TurnM cb db w (w.setCell ⟨cb, 0, none⟩ (.int .i64 (n' : Int))) := by
  have ht := turned_store w cb 0 (.int .i64 (n' : Int))
  refine ⟨⟨h.lt, ?_, (ht.block _ h.lts.2 (fun e => h.lt.2.2 e.symm)).trans h.d⟩, ht.mono (fun b hb => .inl hb)⟩
  have := heap_setCells_mid (A := []) (B := [.int .i64 (n : Int)]) (C := []) (vs := [.int .i64 (n' : Int)]) (o := 0) rfl rfl h.c
  rw [show w.setCells cb 0 [.int .i64 (n' : Int)] = w.setCell ⟨cb, 0, none⟩ (.int .i64 (n' : Int)) from rfl] at this
  simpa using this
theorem MeasSt.putD (h : MeasSt lo cb db n m w) (m' : Nat) : MeasSt lo cb db n m' (w.setCell ⟨db, 0, none⟩ (.int .i64 (m' : Int))) ∧ TurnM cb db w (w.setCell ⟨db, 0, none⟩ (.int .i64 (m' : Int))) := by
  have ht := turned_store w db 0 (.int .i64 (m' : Int))
  refine ⟨⟨h.lt, (ht.block _ h.lts.1 (fun e => h.lt.2.2 e)).trans h.c, ?_⟩, ht.mono (fun b hb => .inr (.inl hb))⟩
  have := heap_setCells_mid (A := []) (B := [.int .i64 (m : Int)]) (C := []) (vs := [.int .i64 (m' : Int)]) (o := 0) rfl rfl h.d
  rw [show w.setCells db 0 [.int .i64 (m' : Int)] = w.setCell ⟨db, 0, none⟩ (.int .i64 (m' : Int)) from rfl] at this
  simpa using this
end

set_option maxHeartbeats 1000000 in
theorem measC_any (lo cb db n m k : Nat) (w : World) (v0 v1 v2 v3 v4 : Value) (h : MeasSt lo cb db n m w) (hn : n ≤ 1000000000000000) (hm : m ≤ 1000) (hk : k ≤ 1000) :
    Calls Tryd.prog 37 (#[.agg #[v0, v1, v2, v3, v4], .int .i64 (k : Int)] ++ #[.pointer (some ⟨cb, 0, none⟩), .pointer (some ⟨db, 0, none⟩)]) w fun e w' => e = .returned (.tuple #[]) ∧ MeasSt lo cb db (n + 1) (max m k) w' ∧ TurnM cb db w w' := by
  have hba : Below w.heap.size w (w.alloc (.cells #[v0, v1, v2, v3, v4] 57)) := (Below.refl _ _).alloc (Nat.le_refl _) _
  have HM := Lib.hid (And.intro (h.later hba) (show TurnM cb db w (w.alloc (.cells #[v0, v1, v2, v3, v4] 57)) from TurnM.below hba))
  clear hba h
  have HX := Lib.hid (And.intro (show ((n + 1 : Nat) : Int) = (n : Int) + 1 by omega) (show ((max m k : Nat) : Int) = max (m : Int) (k : Int) by omega))
  show Calls _ _ #[.agg #[v0, v1, v2, v3, v4], .int .i64 (k : Int), .pointer (some ⟨cb, 0, none⟩), .pointer (some ⟨db, 0, none⟩)] w _
  go_enter Tryd.func37, Tryd.ntmps37
  go_upto_region 1 with fail
  generalize w.alloc (.cells #[v0, v1, v2, v3, v4] 57) = W1 at HM ⊢
  have c0 := cell_of_row _ _ 0 _ _ _ HM.out.1.c
  have f0 := frozen_of_row _ _ 0 _ _ HM.out.1.c
  simp only [List.getElem?_toArray, List.getElem?_cons_zero] at c0
  have HM2 := Lib.hid (show MeasSt lo cb db (n + 1) m (W1.setCell ⟨cb, 0, none⟩ (.int .i64 ((n + 1 : Nat) : Int))) ∧ TurnM cb db w (W1.setCell ⟨cb, 0, none⟩ (.int .i64 ((n + 1 : Nat) : Int))) from ⟨(HM.out.1.putC (n + 1)).1, HM.out.2.trans (HM.out.1.putC (n + 1)).2⟩)
  rw [HX.out.1] at HM2
  go_upto_region 2 with fail
  clear c0 f0
  generalize W1.setCell ⟨cb, 0, none⟩ (.int .i64 ((n : Int) + 1)) = W2 at HM2 ⊢
  have d0 := cell_of_row _ _ 0 _ _ _ HM2.out.1.d
  have f0 := frozen_of_row _ _ 0 _ _ HM2.out.1.d
  simp only [List.getElem?_toArray, List.getElem?_cons_zero] at d0
  have HM3 := Lib.hid (show MeasSt lo cb db (n + 1) (max m k) (W2.setCell ⟨db, 0, none⟩ (.int .i64 ((max m k : Nat) : Int))) ∧ TurnM cb db w (W2.setCell ⟨db, 0, none⟩ (.int .i64 ((max m k : Nat) : Int))) from ⟨(HM2.out.1.putD (max m k)).1, HM2.out.2.trans (HM2.out.1.putD (max m k)).2⟩)
  rw [HX.out.2] at HM3
  go_wp2
  go_end0
  exact ⟨rfl, HM3.out⟩

def deepN (D k : Nat) : List StmtD → Nat := maxN (fun s => k - 1 + nestS D s)
theorem deepN_le {D k : Nat} (xs : List StmtD) : deepN D k xs ≤ k - 1 + D := maxN_le.2 fun s _ => by have := nest_le D s; omega
theorem deepN_mem {D k : Nat} (hk : 1 ≤ k) (s : StmtD) : k - 1 + nestS (D + 1) s = max k (max (deepN D (k + 1) s.body) (deepN D (k + 1) s.els)) := by
  have h : ∀ (k : Nat) (xs : List StmtD), max k (maxN (fun s => k + 1 - 1 + nestS D s) xs) = k + maxN (nestS D) xs := by
    intro k xs
    induction xs with
    | nil => simp [maxN]
    | cons x xs ih => simp only [maxN]; omega
  have h1 := h k s.body
  have h2 := h k s.els
  show k - 1 + (1 + max (maxN (nestS D) s.body) (maxN (nestS D) s.els)) = max k (max (maxN (fun s => k + 1 - 1 + nestS D s) s.body) (maxN (fun s => k + 1 - 1 + nestS D s) s.els))
  omega

def StmtsI (D : Nat) : Prop := ∀ (lo cb db n m k : Nat) (a : Option Addr) (c : Nat) (xs : List StmtD) (w : World), ListK 5 (StmtP D) (fun b => b < lo) w a xs → xs.length ≤ 100 → MeasSt lo cb db n m w → 1 ≤ k → k + D ≤ 100 → m ≤ 1000 → n + sumN (cntS D) xs ≤ 100000000000000 →
    Calls Tryd.prog 36 #[.slice a xs.length c, .int .i64 (k : Int), .func (.func 37) #[] #[.pointer (some ⟨cb, 0, none⟩), .pointer (some ⟨db, 0, none⟩)]] w fun e w' =>
      e = .returned (.tuple #[]) ∧ MeasSt lo cb db (n + sumN (cntS D) xs) (max m (deepN D k xs)) w' ∧ TurnM cb db w w'
set_option maxRecDepth 100000 in
set_option maxHeartbeats 4000000 in
theorem stmts_step (D : Nat) (hD : ∀ D', D = D' + 1 → StmtsI D') : StmtsI D := by
  intro lo cb db n m k a c xs w h hl hM hk1 hkD hm hn
  have HI := Lib.hid (And.intro h (And.intro hD (And.intro hk1 (And.intro hkD (And.intro hm hn)))))
  have HM0 := Lib.hid hM
  have hl2 : xs.length ≤ 9223372036854775807 := by omega
  have hen : ∀ v u W, (callFunc 37 (#[v, u] ++ #[.pointer (some ⟨cb, 0, none⟩), .pointer (some ⟨db, 0, none⟩)])).run Tryd.prog W = .ok (.enter 37 (#[v, u] ++ #[.pointer (some ⟨cb, 0, none⟩), .pointer (some ⟨db, 0, none⟩)])) W := fun v u W => by kernel_rfl
  have HKW := Lib.hid (show wrap64 ((k : Int) + 1) = ((k + 1 : Nat) : Int) by rw [show (k : Int) + 1 = ((k + 1 : Nat) : Int) by omega]; exact IntWalk.wrap64_in _ (by omega))
  clear h hD hM hk1 hkD hm hn
  obtain ⟨q, hq⟩ : ∃ q : Int, q = k := ⟨_, rfl⟩
  rw [← hq] at HKW ⊢
  have HQ := Lib.hid hq
  clear hq
  go_enter Tryd.func36, Tryd.ntmps36
  go_wp2_with fail
  go_loopg [10] xs.length (fun G i wr => ∃ (j : Nat), j + G = xs.length ∧ i = .int .i64 j ∧ Hid (MeasSt lo cb db (n + sumN (cntS D) (xs.take j)) (max m (deepN D k (xs.take j))) wr ∧ TurnM cb db w wr))
  case atStart => exact ⟨0, by omega, rfl, Lib.hid ⟨by simpa [sumN, deepN, maxN] using HM0.out, TurnM.refl _ _ _⟩⟩
  case round =>
    obtain ⟨j, hj, rfl, HG⟩ := hrel
    clear HM0
    by_cases hlt : j < xs.length
    · have hji : (j : Int) < (xs.length : Int) := by omega
      obtain ⟨b, off, x, aa, ac, ba, bc, ea, ec, rfl, hx, hS, c0, c1, c2, c3, c4⟩ := stmt_place (HI.out.1.turned (stmtP_stays D) HG.out.2 (fun b hb h1 h2 => by have := HG.out.1.lt; have h3 : b < lo := h1; have := HI.out; omega)) hlt
      obtain ⟨D, rfl⟩ : ∃ D', D = D' + 1 := by
        cases D with
        | zero => exact hS.elim
        | succ D => exact ⟨D, rfl⟩
      obtain ⟨aa', ac', ba', bc', ea', ec', he, hb, _, hB, hE⟩ := hS
      cases he
      obtain ⟨op, name, args, body, els⟩ := x
      simp only [StmtD.op, StmtD.name, StmtD.args, StmtD.body, StmtD.els] at c0 c1 c2 c3 c4 hb hB hE
      have hsum : sumN (cntS (D + 1)) (xs.take (j + 1)) = sumN (cntS (D + 1)) (xs.take j) + (1 + sumN (cntS D) body + sumN (cntS D) els) := sumN_take hx
      have hdeep : deepN (D + 1) k (xs.take (j + 1)) = max (deepN (D + 1) k (xs.take j)) (max k (max (deepN D (k + 1) body) (deepN D (k + 1) els))) := by
        have hmem : k - 1 + nestS (D + 1) (.mk op name args body els) = max k (max (deepN D (k + 1) body) (deepN D (k + 1) els)) := deepN_mem HI.out.2.2.1 (.mk op name args body els)
        rw [← hmem]
        exact maxN_take (f := fun s => k - 1 + nestS (D + 1) s) hx
      have hle : sumN (cntS (D + 1)) (xs.take (j + 1)) ≤ sumN (cntS (D + 1)) xs := by
        have h1 := sumN_append (f := cntS (D + 1)) (xs.take (j + 1)) (xs.drop (j + 1))
        rw [List.take_append_drop] at h1
        omega
      have hdl := deepN_le (D := D + 1) (k := k) (xs.take j)
      obtain ⟨n1, hn1⟩ : ∃ n1, n1 = n + sumN (cntS (D + 1)) (xs.take j) := ⟨_, rfl⟩
      obtain ⟨m1, hm1⟩ : ∃ m1, m1 = max m (deepN (D + 1) k (xs.take j)) := ⟨_, rfl⟩
      have hG := HG.out
      rw [← hn1, ← hm1] at hG
      have hnn := HI.out.2.2.2.2.2
      have hkD := HI.out.2.2.2.1
      have hmm := HI.out.2.2.2.2.1
      have hk1 := HI.out.2.2.1
      have hdb := deepN_le (D := D) (k := k + 1) body
      have HBD := Lib.hid (show n1 + 1 + sumN (cntS D) body + sumN (cntS D) els ≤ 100000000000000 ∧ m1 ≤ 1000 ∧ k + 1 + D ≤ 100 ∧ max (max m1 k) (deepN D (k + 1) body) ≤ 1000 ∧ body.length ≤ 100 ∧ els.length ≤ 100 by omega)
      have HFIN := Lib.hid (show n1 + 1 + sumN (cntS D) body + sumN (cntS D) els = n + sumN (cntS (D + 1)) (xs.take (j + 1)) ∧ max (max (max m1 k) (deepN D (k + 1) body)) (deepN D (k + 1) els) = max m (deepN (D + 1) k (xs.take (j + 1))) by
        rw [hsum, hdeep, hn1, hm1]; omega)
      have hba : Below wr.heap.size wr (wr.alloc (.cells #[.int .i64 op, .string name, .slice aa args.length ac, .slice ba body.length bc, .slice ea els.length ec] 57)) := (Below.refl _ _).alloc (Nat.le_refl _) _
      have hrow := heap_alloc_new wr (.cells #[.int .i64 op, .string name, .slice aa args.length ac, .slice ba body.length bc, .slice ea els.length ec] 57)
      have HS := Lib.hid (And.intro (hB.below (stmtP_stays D) hba) (hE.below (stmtP_stays D) hba))
      have HM1 := Lib.hid (And.intro (hG.1.later hba) (hG.2.trans (TurnM.below hba)))
      have HSZ := Lib.hid (show cb ≠ wr.heap.size ∧ db ≠ wr.heap.size by have := hG.1.lts; omega)
      have HC := Lib.hid (measC_any lo cb db n1 m1 k _ (.int .i64 op) (.string name) (.slice aa args.length ac) (.slice ba body.length bc) (.slice ea els.length ec) HM1.out.1 (by omega) (by omega) (by omega))
      rw [← HQ.out] at HC
      clear hx hB hE hb hsum hdeep hle hdl hn1 hm1 hG HG hnn hkD hmm hk1 hdb hba
      obtain ⟨bx, hbx⟩ : ∃ b, b = wr.heap.size := ⟨_, rfl⟩
      go_upto_region 3 with fail
      rw [← hbx] at hrow HSZ ⊢
      clear hbx
      generalize wr.alloc (.cells #[.int .i64 op, .string name, .slice aa args.length ac, .slice ba body.length bc, .slice ea els.length ec] 57) = W1 at hrow HS HM1 HC ⊢
      have HROW := Lib.hid hrow
      clear c0 c1 c2 c3 c4 hrow
      have e0 := cell_of_row _ _ 0 _ _ _ HROW.out
      have e1 := cell_of_row _ _ 1 _ _ _ HROW.out
      have e2 := cell_of_row _ _ 2 _ _ _ HROW.out
      have e3 := cell_of_row _ _ 3 _ _ _ HROW.out
      have e4 := cell_of_row _ _ 4 _ _ _ HROW.out
      simp only [List.getElem?_toArray, List.getElem?_cons_zero, List.getElem?_cons_succ] at e0 e1 e2 e3 e4
      go_wp2_with fail
      refine HC.out.mono ?_
      rintro e w2 ⟨rfl, hM2, hT2⟩
      have hlt1 := (Array.getElem?_eq_some_iff.1 HROW.out).1
      have hrow2 := (hT2.block bx hlt1 (fun h => by have := HSZ.out; omega)).trans HROW.out
      have HM2 := Lib.hid (And.intro hM2 (HM1.out.2.trans hT2))
      have HS2 := Lib.hid (And.intro (HS.out.1.turned (stmtP_stays D) hT2 (fun b hb h1 h2 => by have := hM2.lt; have h3 : b < lo := h1; omega)) (HS.out.2.turned (stmtP_stays D) hT2 (fun b hb h1 h2 => by have := hM2.lt; have h3 : b < lo := h1; omega)))
      have HROW2 := Lib.hid hrow2
      have HC2 := Lib.hid (HI.out.2.1 D rfl lo cb db (n1 + 1) (max m1 k) (k + 1) ba bc body w2 HS2.out.1 HBD.out.2.2.2.2.1 hM2 (by omega) HBD.out.2.2.1 (by have := HBD.out; have := HI.out.2.2.2.1; omega) (by have := HBD.out; omega))
      clear hM2 hT2 hrow2 hlt1 e0 e1 e2 e3 e4 HC HS HM1
      have g3 := cell_of_row _ _ 3 _ _ _ HROW2.out
      simp only [List.getElem?_toArray, List.getElem?_cons_zero, List.getElem?_cons_succ] at g3
      have hsub : wrap64 (q + 1) = ((k + 1 : Nat) : Int) := HKW.out
      go_wp2_with fail
      refine HC2.out.mono ?_
      rintro e w3 ⟨rfl, hM3, hT3⟩
      have hlt1 := (Array.getElem?_eq_some_iff.1 HROW2.out).1
      have hrow3 := (hT3.block bx hlt1 (fun h => by have := HSZ.out; omega)).trans HROW2.out
      have HM3 := Lib.hid (And.intro hM3 (HM2.out.2.trans hT3))
      have HS3 := Lib.hid (HS2.out.2.turned (stmtP_stays D) hT3 (fun b hb h1 h2 => by have := hM3.lt; have h3 : b < lo := h1; omega))
      have HROW3 := Lib.hid hrow3
      have HC3 := Lib.hid (HI.out.2.1 D rfl lo cb db (n1 + 1 + sumN (cntS D) body) (max (max m1 k) (deepN D (k + 1) body)) (k + 1) ea ec els w3 HS3.out HBD.out.2.2.2.2.2 hM3 (by omega) HBD.out.2.2.1 HBD.out.2.2.2.1 HBD.out.1)
      clear hM3 hT3 hrow3 hlt1 g3 HC2 HS2 HM2
      have g4 := cell_of_row _ _ 4 _ _ _ HROW3.out
      simp only [List.getElem?_toArray, List.getElem?_cons_zero, List.getElem?_cons_succ] at g4
      go_wp2_with fail
      refine HC3.out.mono ?_
      rintro e w4 ⟨rfl, hM4, hT4⟩
      have HM4 := Lib.hid (show MeasSt lo cb db (n + sumN (cntS (D + 1)) (xs.take (j + 1))) (max m (deepN (D + 1) k (xs.take (j + 1)))) w4 ∧ TurnM cb db w w4 by
        rw [← HFIN.out.1, ← HFIN.out.2]
        exact ⟨hM4, HM3.out.2.trans hT4⟩)
      clear hM4 hT4 g4 HC3 HS3 HM3 hsub
      go_wp2
      go_roundg (gk - 1)
      case measure => omega
      case rel => exact ⟨j + 1, by omega, by go_num, HM4⟩
    · obtain rfl : j = xs.length := by omega
      have HF := Lib.hid (show MeasSt lo cb db (n + sumN (cntS D) xs) (max m (deepN D k xs)) wr ∧ TurnM cb db w wr by
        have h1 := HG.out
        rw [List.take_length] at h1
        exact h1)
      go_wp2
      go_end0
      exact ⟨rfl, HF.out⟩
theorem stmts_any : ∀ D, StmtsI D
  | 0 => stmts_step 0 (fun _ he => by cases he)
  | D + 1 => stmts_step (D + 1) (fun D' he => by cases he; exact stmts_any D)

end Go.Proofs.YtccdmgncjlpebaaDoor
