
/-
  MachValid: what both compute; how an instruction is written.
-/
import Derived.Test.YtdkafajmhgfkoaaDoorMachData
import Derived.Test.YtdkafajmhgfkoaaDoorSame
import Derived.Deep.DeepCutAuto
import Derived.Deep.MidRow
import Derived.Laws.ResultCell
namespace Go.Proofs.YtdkafajmhgfkoaaDoor
open Go.RowKit

/-- The fields that an instruction of each op has, as bits. -/
def fmL : List Int := [0, 9, 3, 7, 7, 7, 7, 7, 7, 7, 3, 3, 3, 1, 8, 9, 9, 9, 9, 1, 8, 9, 1]
def fm (op : Int) : Int := fmL.getD op.toNat 0
def bitB (F : Int) (k : Nat) : Bool := F.toNat.testBit k
def fieldAt (x : MinsD) : Nat → Int
  | 0 => x.fa
  | 1 => x.fb
  | 2 => x.fc
  | _ => x.fn
def opB (op : Int) : Bool := decide (1 ≤ op) && decide (op ≤ 22)
/-- A field that the op has not is 0. -/
def restQ (x : MinsD) (j : Nat) : Bool := bitB (fm x.op) j || fieldAt x j == 0
def formB (x : MinsD) : Bool := opB x.op && allK (restQ x) 4
def inR (lo x hi : Int) : Bool := decide (lo ≤ x) && decide (x ≤ hi)
/-- The most that N may be. -/
def mostN (k : Int) (f : MfnD) (op : Int) : Int :=
  if op = 14 then k - 1 else if op = 15 then f.slots - 1 else if op = 16 then f.slots - 1 else if op = 17 then 2 else if op = 18 then f.params - 1 else if op = 20 then (f.ins.length : Int) - 1 else if op = 21 then (f.ins.length : Int) - 1 else 255
def insV (k : Int) (f : MfnD) (x : MinsD) : Bool := formB x && (inR 0 x.fa 7 && (inR 0 x.fb 7 && (inR 0 x.fc 7 && (!bitB (fm x.op) 3 || inR 0 x.fn (mostN k f x.op)))))
def lastB (f : MfnD) : Bool := ((f.ins[f.ins.length - 1]?).map (fun x => x.op == 20 || x.op == 22)).getD false
def mfnV (k : Int) (f : MfnD) : Bool := inR 0 f.params 3 && (inR 0 f.slots 64 && (!((f.ins.length : Int) == 0) && (lastB f && f.ins.all (insV k f))))
def fnV (fs : List MfnD) (k : Nat) : Bool := ((fs[k]?).map (mfnV (k : Int))).getD true
def insN (f : MfnD) : Nat := f.ins.length
def machV (fs : List MfnD) : Bool := inR 1 (fs.length : Int) 4 && (allK (fnV fs) fs.length && decide (sumOf insN fs ≤ 2000))

theorem fm_of {op : Int} (h : opB op = true) : ∃ n : Nat, op = (n : Int) ∧ 1 ≤ n ∧ n ≤ 22 := by
  simp only [opB, Bool.and_eq_true, decide_eq_true_eq] at h
  exact ⟨op.toNat, by omega, by omega, by omega⟩
theorem fm_vals : ∀ n : Nat, n < 23 → fmL.getD n 0 = 0 ∨ fmL.getD n 0 = 1 ∨ fmL.getD n 0 = 3 ∨ fmL.getD n 0 = 7 ∨ fmL.getD n 0 = 8 ∨ fmL.getD n 0 = 9 := by decide

/-- The table of the instructions' forms, as it lies. -/
def FormsAt (w : World) : Prop := ∀ i : Nat, i < 23 → ∃ s, w.cell? ⟨0, i * 2, none⟩ = some (.string s) ∧ w.cell? ⟨0, i * 2 + 1, none⟩ = some (.int .i64 (fmL.getD i 0))
theorem FormsAt.later {w w' : World} (h : FormsAt w) (hb : Below w.heap.size w w') : FormsAt w' := fun i hi => by
  obtain ⟨s, h1, h2⟩ := h i hi
  exact ⟨s, cell_later hb h1, cell_later hb h2⟩

theorem withinM_any (x lo hi : Int) (w : World) : Calls Tryd.prog 22 #[.int .i64 x, .int .i64 lo, .int .i64 hi] w fun e w' => e = .returned (.bool (inR lo x hi)) ∧ w' = w := by
  unfold inR
  by_cases h1 : lo ≤ x
  · have d1 : decide (lo ≤ x) = true := decide_eq_true h1
    by_cases h2 : x ≤ hi
    · have d2 : decide (x ≤ hi) = true := decide_eq_true h2
      rw [d1, d2]
      go_enter Tryd.func22, Tryd.ntmps22
      go_wp2
      go_ret
      exact ⟨rfl, rfl⟩
    · have d2 : decide (x ≤ hi) = false := decide_eq_false h2
      rw [d1, d2]
      go_enter Tryd.func22, Tryd.ntmps22
      go_wp2
      go_ret
      exact ⟨rfl, rfl⟩
  · have d1 : decide (lo ≤ x) = false := decide_eq_false h1
    rw [d1]
    go_enter Tryd.func22, Tryd.ntmps22
    go_wp2
    go_ret
    exact ⟨rfl, rfl⟩
theorem withinM_is {x lo hi : Int} {v : Bool} (h : inR lo x hi = v) (w : World) : Calls Tryd.prog 22 #[.int .i64 x, .int .i64 lo, .int .i64 hi] w fun e w' => e = .returned (.bool v) ∧ w' = w := by
  rw [← h]; exact withinM_any x lo hi w

theorem results_form {P : Program} {fn : Func} {p u : Tmp} {ty : TypeId} (h : fn.results = #[.cell p ty, .tmp u]) (tmps : Array Value) (w : World) (g : Nat) (t : TypeId) (cs : Array Value) (fr : Nat × Nat) (d : TypeDesc)
    (hp : tmps.getD p undef = .pointer (some ⟨g, 0, none⟩)) (hg : w.heap[g]? = some (.cells cs t fr))
    (hu : P.underlying ty = some d) (hd : (match d with | .struct _ | .array _ _ => true | _ => false) = true) (hi : (P.info? ty).map (·.size) = some cs.size) :
    (results fn tmps).run P w = .ok (.tuple #[.agg cs, tmps.getD u undef]) w := by
  rw [results_cell_tmp h, hp]
  simp [asAddr, run_loadVar_row w g t ty cs fr d hg hu hd hi]
theorem idx4_0 (a b c d : Int) (w : World) : (Instr.index 96 (.agg #[.int .i64 a, .int .i64 b, .int .i64 c, .int .i64 d]) (.int .i64 0)).run Tryd.prog w = .ok (.int .i64 a) w := by kernel_rfl
theorem idx4_1 (a b c d : Int) (w : World) : (Instr.index 96 (.agg #[.int .i64 a, .int .i64 b, .int .i64 c, .int .i64 d]) (.int .i64 1)).run Tryd.prog w = .ok (.int .i64 b) w := by kernel_rfl
theorem idx4_2 (a b c d : Int) (w : World) : (Instr.index 96 (.agg #[.int .i64 a, .int .i64 b, .int .i64 c, .int .i64 d]) (.int .i64 2)).run Tryd.prog w = .ok (.int .i64 c) w := by kernel_rfl
theorem idx4_3 (a b c d : Int) (w : World) : (Instr.index 96 (.agg #[.int .i64 a, .int .i64 b, .int .i64 c, .int .i64 d]) (.int .i64 3)).run Tryd.prog w = .ok (.int .i64 d) w := by kernel_rfl
/-- The result's block, when two cells of it are stored anew. -/
theorem put_form {w : World} {g base : Nat} {s0 s1 : ByteArray} {F0 F1 : Int} (h : w.heap[g]? = some (.cells #[.string s0, .int .i64 F0] 65 (0, 0))) (hb : base ≤ g) :
    (w.setCells g 0 [.string s1, .int .i64 F1]).heap[g]? = some (.cells #[.string s1, .int .i64 F1] 65 (0, 0)) ∧ Below base w (w.setCells g 0 [.string s1, .int .i64 F1]) :=
  ⟨heap_setCells_mid (A := []) (B := [.string s0, .int .i64 F0]) (C := []) rfl rfl h,
    (turned_setCells (g := g) [.string s1, .int .i64 F1] w 0).below (Nat.le_of_lt (Nat.lt_of_le_of_lt hb (Array.getElem?_eq_some_iff.1 h).1)) (fun k hk => by omega)⟩

set_option maxRecDepth 100000 in
set_option maxHeartbeats 4000000 in
theorem formOf_any (x : MinsD) (w : World) (hF : FormsAt w) :
    Calls Tryd.prog 42 #[.agg #[.int .i64 x.op, .int .i64 x.fa, .int .i64 x.fb, .int .i64 x.fc, .int .i64 x.fn]] w fun e w' =>
      ∃ s F, e = .returned (.tuple #[.agg #[.string s, .int .i64 F], .bool (formB x)]) ∧ Below w.heap.size w w' ∧ (formB x = true → F = fm x.op) := by
  obtain ⟨op, fa, fb, fc, fn⟩ := x
  have hb0 : Below w.heap.size w ((w.alloc (.cells #[.int .i64 op, .int .i64 fa, .int .i64 fb, .int .i64 fc, .int .i64 fn] 41)).alloc (.cells #[.string ⟨#[]⟩, .int .i64 0] 65)) := ((Below.refl _ _).alloc (Nat.le_refl _) _).alloc (by simp) _
  have hA := heap_alloc2_old w (.cells #[.int .i64 op, .int .i64 fa, .int .i64 fb, .int .i64 fc, .int .i64 fn] 41) (.cells #[.string ⟨#[]⟩, .int .i64 0] 65)
  have hZ := heap_alloc2_new w (.cells #[.int .i64 op, .int .i64 fa, .int .i64 fb, .int .i64 fc, .int .i64 fn] 41) (.cells #[.string ⟨#[]⟩, .int .i64 0] 65)
  have HW := Lib.hid (And.intro hb0 (And.intro hA (And.intro hZ (hF.later hb0))))
  clear hb0 hA hZ hF
  show Calls _ _ #[.agg #[.int .i64 op, .int .i64 fa, .int .i64 fb, .int .i64 fc, .int .i64 fn]] w _
  go_enter Tryd.func42, Tryd.ntmps42
  go_upto_region 1 with fail
  obtain ⟨q, hq⟩ : ∃ q, q = w.heap.size := ⟨_, rfl⟩
  generalize (w.alloc (.cells #[.int .i64 op, .int .i64 fa, .int .i64 fb, .int .i64 fc, .int .i64 fn] 41)).alloc (.cells #[.string ⟨#[]⟩, .int .i64 0] 65) = W1 at HW ⊢
  rw [← hq] at HW ⊢
  have HQ := Lib.hid hq
  clear hq
  have k0 := cell_of_row _ _ 0 _ _ _ HW.out.2.1
  have k1 := cell_of_row _ _ 1 _ _ _ HW.out.2.1
  have k2 := cell_of_row _ _ 2 _ _ _ HW.out.2.1
  have k3 := cell_of_row _ _ 3 _ _ _ HW.out.2.1
  have k4 := cell_of_row _ _ 4 _ _ _ HW.out.2.1
  have z0 := cell_of_row _ _ 0 _ _ _ HW.out.2.2.1
  have z1 := cell_of_row _ _ 1 _ _ _ HW.out.2.2.1
  have y0 := frozen_of_row _ _ 0 _ _ HW.out.2.2.1
  have y1 := frozen_of_row _ _ 1 _ _ HW.out.2.2.1
  simp only [List.getElem?_toArray, List.getElem?_cons_zero, List.getElem?_cons_succ] at k0 k1 k2 k3 k4 z0 z1
  go_wp2_with fail
  cases ho : opB op with
  | false =>
    have HN := Lib.hid (show formB ⟨op, fa, fb, fc, fn⟩ = false by rw [formB, ho, Bool.false_and])
    refine (withinM_is (show inR 1 op 22 = false from ho) W1).mono ?_
    clear ho
    rintro e w2 ⟨rfl, rfl⟩
    go_wp2
    obtain ⟨hp, hbp⟩ := put_form (s1 := ⟨#[]⟩) (F1 := 0) HW.out.2.2.1 (base := w.heap.size) (by have := HQ.out; omega)
    refine bodyPost_ret (results_form rfl _ _ (q + 1) 65 #[.string ⟨#[]⟩, .int .i64 0] (0, 0) _ rfl hp Tryd.underlying65 rfl (by kernel_rfl)) rfl ?_
    exact ⟨_, _, by rw [HN.out]; rfl, (HQ.out ▸ HW.out.1).trans hbp, fun h => by rw [HN.out] at h; cases h⟩
  | true =>
    have HO := Lib.hid ho
    obtain ⟨n, rfl, hn1, hn2⟩ := fm_of ho
    have hfm : fm (n : Int) = fmL.getD n 0 := by rw [fm, Int.toNat_natCast]
    refine (withinM_is (show inR 1 (n : Int) 22 = true from ho) W1).mono ?_
    clear ho
    rintro e w2 ⟨rfl, rfl⟩
    obtain ⟨s, g0, g1⟩ := HW.out.2.2.2 n (by omega)
    obtain ⟨F, hFe⟩ : ∃ F, F = fmL.getD n 0 := ⟨_, rfl⟩
    have hvals := fm_vals n (by omega)
    rw [← hFe] at g1 hfm hvals
    clear hFe
    have hni : (n : Int) < 23 := by omega
    have hba : Below w2.heap.size w2 (w2.alloc (.cells #[.string s, .int .i64 (F)] 65)) := (Below.refl _ _).alloc (Nat.le_refl _) _
    have HV := Lib.hid (And.intro (show formB ⟨(n : Int), fa, fb, fc, fn⟩ = allK (restQ ⟨(n : Int), fa, fb, fc, fn⟩) 4 by rw [formB, HO.out, Bool.true_and]) hfm)
    have hqs : q ≤ w2.heap.size := by have := HW.out.1.size; have := HQ.out; omega
    have HX := Lib.hid (And.intro (HW.out.1.trans (hba.mono hqs)) (And.intro ((hba.block _ (Array.getElem?_eq_some_iff.1 HW.out.2.2.1).1).trans HW.out.2.2.1) (And.intro (heap_alloc_new w2 (.cells #[.string s, .int .i64 (F)] 65)) ((hba.block _ (Array.getElem?_eq_some_iff.1 HW.out.2.1).1).trans HW.out.2.1))))
    have d0 := cell_of_row _ _ 0 _ _ _ HX.out.2.2.2
    have d1 := cell_of_row _ _ 1 _ _ _ HX.out.2.2.2
    have d2 := cell_of_row _ _ 2 _ _ _ HX.out.2.2.2
    have d3 := cell_of_row _ _ 3 _ _ _ HX.out.2.2.2
    have d4 := cell_of_row _ _ 4 _ _ _ HX.out.2.2.2
    simp only [List.getElem?_toArray, List.getElem?_cons_zero, List.getElem?_cons_succ] at d0 d1 d2 d3 d4
    have HR := Lib.hid (fun j => show restQ ⟨(n : Int), fa, fb, fc, fn⟩ j = (bitB (F) j || fieldAt ⟨(n : Int), fa, fb, fc, fn⟩ j == 0) by rw [restQ, hfm])
    clear hba hfm hqs
    go_wp2_with fail
    clear k0 k1 k2 k3 k4 z0 z1 y0 y1 g0 g1 d0 d1 d2 d3 d4
    generalize w2.alloc (.cells #[.string s, .int .i64 (F)] 65) = W3 at HX ⊢
    obtain ⟨p, hp⟩ : ∃ p, p = w2.heap.size := ⟨_, rfl⟩
    rw [← hp] at HX ⊢
    clear hp
    have HP := Lib.hid (show q + 1 < w2.heap.size from (Array.getElem?_eq_some_iff.1 HW.out.2.2.1).1)
    go_loopg [25] 4 (fun G i wr => ∃ k : Nat, k + G = 4 ∧ i = .int .i64 k ∧ Hid (allK (restQ ⟨(n : Int), fa, fb, fc, fn⟩) k = true ∧ Below W3.heap.size W3 wr))
    case atStart => exact ⟨0, by omega, rfl, Lib.hid ⟨rfl, Below.refl _ _⟩⟩
    case round =>
      obtain ⟨k, hk, rfl, HK⟩ := hrel
      have hpf := (HK.out.2.block _ (Array.getElem?_eq_some_iff.1 HX.out.2.2.1).1).trans HX.out.2.2.1
      have hqf := (HK.out.2.block _ (Array.getElem?_eq_some_iff.1 HX.out.2.1).1).trans HX.out.2.1
      have z0 := cell_of_row _ _ 0 _ _ _ hqf
      have z1 := cell_of_row _ _ 1 _ _ _ hqf
      have y0 := frozen_of_row _ _ 0 _ _ hqf
      have y1 := frozen_of_row _ _ 1 _ _ hqf
      have f0 := cell_of_row _ _ 0 _ _ _ hpf
      have f1 := cell_of_row _ _ 1 _ _ _ hpf
      simp only [List.getElem?_toArray, List.getElem?_cons_zero, List.getElem?_cons_succ] at z0 z1 f0 f1
      have HQF := Lib.hid hqf
      clear hpf hqf
      by_cases hlt : k < 4
      · have hkq : k = 0 ∨ k = 1 ∨ k = 2 ∨ k = 3 := by omega
        have HST := Lib.hid (fun (h : restQ ⟨(n : Int), fa, fb, fc, fn⟩ k = false) => show formB ⟨(n : Int), fa, fb, fc, fn⟩ = false by rw [HV.out.1, allK_stop h hlt])
        have HNX := Lib.hid (fun (h : restQ ⟨(n : Int), fa, fb, fc, fn⟩ k = true) => allK_next HK.out.1 h)
        rcases hkq with rfl | rfl | rfl | rfl
        · have hix := idx4_0 fa fb fc fn wr
          rcases hvals with rfl | rfl | rfl | rfl | rfl | rfl
          · by_cases hz : fa = 0
            · have HN := Lib.hid (HNX.out (by rw [HR.out]; show (_ || (fa == 0)) = true; rw [hz]; rfl))
              have hzb : (fa != 0) = false := by rw [hz]; rfl
              clear f0 hz
              go_wp2_with fail
              go_quiet (fail)
              go_wp2
              go_roundg (gk - 1)
              case measure => omega
              case rel => exact ⟨1, by omega, rfl, Lib.hid ⟨HN.out, below_drewN HK.out.2 _⟩⟩
            · have hzq : (fa == 0) = false := by simpa using hz
              have HN := Lib.hid (HST.out (by rw [HR.out]; show (_ || (fa == 0)) = false; rw [hzq]; rfl))
              have hzb : (fa != 0) = true := by rw [bne, hzq]; rfl
              clear f0 hz
              go_wp2_with fail
              go_quiet (fail)
              go_wp2
              obtain ⟨hp, hbp⟩ := put_form (w := wr.drewN nq) (s1 := ⟨#[]⟩) (F1 := 0) HQF.out (base := w.heap.size) (by have := HQ.out; omega)
              refine bodyPost_ret (results_form rfl _ _ (q + 1) 65 #[.string ⟨#[]⟩, .int .i64 0] (0, 0) _ rfl hp Tryd.underlying65 rfl (by kernel_rfl)) rfl ?_
              have hbx : Below w.heap.size w W3 := HQ.out ▸ HX.out.1
              exact ⟨⟨#[]⟩, 0, by rw [HN.out]; rfl, (hbx.trans ((below_drewN HK.out.2 _).mono hbx.size)).trans hbp, fun h => by rw [HN.out] at h; cases h⟩
          · have HN := Lib.hid (HNX.out (by rw [HR.out]; rfl))
            clear f0
            go_wp2_with fail
            go_quiet (fail)
            go_wp2
            go_roundg (gk - 1)
            case measure => omega
            case rel => exact ⟨1, by omega, rfl, Lib.hid ⟨HN.out, below_drewN HK.out.2 _⟩⟩
          · have HN := Lib.hid (HNX.out (by rw [HR.out]; rfl))
            clear f0
            go_wp2_with fail
            go_quiet (fail)
            go_wp2
            go_roundg (gk - 1)
            case measure => omega
            case rel => exact ⟨1, by omega, rfl, Lib.hid ⟨HN.out, below_drewN HK.out.2 _⟩⟩
          · have HN := Lib.hid (HNX.out (by rw [HR.out]; rfl))
            clear f0
            go_wp2_with fail
            go_quiet (fail)
            go_wp2
            go_roundg (gk - 1)
            case measure => omega
            case rel => exact ⟨1, by omega, rfl, Lib.hid ⟨HN.out, below_drewN HK.out.2 _⟩⟩
          · by_cases hz : fa = 0
            · have HN := Lib.hid (HNX.out (by rw [HR.out]; show (_ || (fa == 0)) = true; rw [hz]; rfl))
              have hzb : (fa != 0) = false := by rw [hz]; rfl
              clear f0 hz
              go_wp2_with fail
              go_quiet (fail)
              go_wp2
              go_roundg (gk - 1)
              case measure => omega
              case rel => exact ⟨1, by omega, rfl, Lib.hid ⟨HN.out, below_drewN HK.out.2 _⟩⟩
            · have hzq : (fa == 0) = false := by simpa using hz
              have HN := Lib.hid (HST.out (by rw [HR.out]; show (_ || (fa == 0)) = false; rw [hzq]; rfl))
              have hzb : (fa != 0) = true := by rw [bne, hzq]; rfl
              clear f0 hz
              go_wp2_with fail
              go_quiet (fail)
              go_wp2
              obtain ⟨hp, hbp⟩ := put_form (w := wr.drewN nq) (s1 := ⟨#[]⟩) (F1 := 0) HQF.out (base := w.heap.size) (by have := HQ.out; omega)
              refine bodyPost_ret (results_form rfl _ _ (q + 1) 65 #[.string ⟨#[]⟩, .int .i64 0] (0, 0) _ rfl hp Tryd.underlying65 rfl (by kernel_rfl)) rfl ?_
              have hbx : Below w.heap.size w W3 := HQ.out ▸ HX.out.1
              exact ⟨⟨#[]⟩, 0, by rw [HN.out]; rfl, (hbx.trans ((below_drewN HK.out.2 _).mono hbx.size)).trans hbp, fun h => by rw [HN.out] at h; cases h⟩
          · have HN := Lib.hid (HNX.out (by rw [HR.out]; rfl))
            clear f0
            go_wp2_with fail
            go_quiet (fail)
            go_wp2
            go_roundg (gk - 1)
            case measure => omega
            case rel => exact ⟨1, by omega, rfl, Lib.hid ⟨HN.out, below_drewN HK.out.2 _⟩⟩
        · have hix := idx4_1 fa fb fc fn wr
          rcases hvals with rfl | rfl | rfl | rfl | rfl | rfl
          · by_cases hz : fb = 0
            · have HN := Lib.hid (HNX.out (by rw [HR.out]; show (_ || (fb == 0)) = true; rw [hz]; rfl))
              have hzb : (fb != 0) = false := by rw [hz]; rfl
              clear f0 hz
              go_wp2_with fail
              go_quiet (fail)
              go_wp2
              go_roundg (gk - 1)
              case measure => omega
              case rel => exact ⟨2, by omega, rfl, Lib.hid ⟨HN.out, below_drewN HK.out.2 _⟩⟩
            · have hzq : (fb == 0) = false := by simpa using hz
              have HN := Lib.hid (HST.out (by rw [HR.out]; show (_ || (fb == 0)) = false; rw [hzq]; rfl))
              have hzb : (fb != 0) = true := by rw [bne, hzq]; rfl
              clear f0 hz
              go_wp2_with fail
              go_quiet (fail)
              go_wp2
              obtain ⟨hp, hbp⟩ := put_form (w := wr.drewN nq) (s1 := ⟨#[]⟩) (F1 := 0) HQF.out (base := w.heap.size) (by have := HQ.out; omega)
              refine bodyPost_ret (results_form rfl _ _ (q + 1) 65 #[.string ⟨#[]⟩, .int .i64 0] (0, 0) _ rfl hp Tryd.underlying65 rfl (by kernel_rfl)) rfl ?_
              have hbx : Below w.heap.size w W3 := HQ.out ▸ HX.out.1
              exact ⟨⟨#[]⟩, 0, by rw [HN.out]; rfl, (hbx.trans ((below_drewN HK.out.2 _).mono hbx.size)).trans hbp, fun h => by rw [HN.out] at h; cases h⟩
          · by_cases hz : fb = 0
            · have HN := Lib.hid (HNX.out (by rw [HR.out]; show (_ || (fb == 0)) = true; rw [hz]; rfl))
              have hzb : (fb != 0) = false := by rw [hz]; rfl
              clear f0 hz
              go_wp2_with fail
              go_quiet (fail)
              go_wp2
              go_roundg (gk - 1)
              case measure => omega
              case rel => exact ⟨2, by omega, rfl, Lib.hid ⟨HN.out, below_drewN HK.out.2 _⟩⟩
            · have hzq : (fb == 0) = false := by simpa using hz
              have HN := Lib.hid (HST.out (by rw [HR.out]; show (_ || (fb == 0)) = false; rw [hzq]; rfl))
              have hzb : (fb != 0) = true := by rw [bne, hzq]; rfl
              clear f0 hz
              go_wp2_with fail
              go_quiet (fail)
              go_wp2
              obtain ⟨hp, hbp⟩ := put_form (w := wr.drewN nq) (s1 := ⟨#[]⟩) (F1 := 0) HQF.out (base := w.heap.size) (by have := HQ.out; omega)
              refine bodyPost_ret (results_form rfl _ _ (q + 1) 65 #[.string ⟨#[]⟩, .int .i64 0] (0, 0) _ rfl hp Tryd.underlying65 rfl (by kernel_rfl)) rfl ?_
              have hbx : Below w.heap.size w W3 := HQ.out ▸ HX.out.1
              exact ⟨⟨#[]⟩, 0, by rw [HN.out]; rfl, (hbx.trans ((below_drewN HK.out.2 _).mono hbx.size)).trans hbp, fun h => by rw [HN.out] at h; cases h⟩
          · have HN := Lib.hid (HNX.out (by rw [HR.out]; rfl))
            clear f0
            go_wp2_with fail
            go_quiet (fail)
            go_wp2
            go_roundg (gk - 1)
            case measure => omega
            case rel => exact ⟨2, by omega, rfl, Lib.hid ⟨HN.out, below_drewN HK.out.2 _⟩⟩
          · have HN := Lib.hid (HNX.out (by rw [HR.out]; rfl))
            clear f0
            go_wp2_with fail
            go_quiet (fail)
            go_wp2
            go_roundg (gk - 1)
            case measure => omega
            case rel => exact ⟨2, by omega, rfl, Lib.hid ⟨HN.out, below_drewN HK.out.2 _⟩⟩
          · by_cases hz : fb = 0
            · have HN := Lib.hid (HNX.out (by rw [HR.out]; show (_ || (fb == 0)) = true; rw [hz]; rfl))
              have hzb : (fb != 0) = false := by rw [hz]; rfl
              clear f0 hz
              go_wp2_with fail
              go_quiet (fail)
              go_wp2
              go_roundg (gk - 1)
              case measure => omega
              case rel => exact ⟨2, by omega, rfl, Lib.hid ⟨HN.out, below_drewN HK.out.2 _⟩⟩
            · have hzq : (fb == 0) = false := by simpa using hz
              have HN := Lib.hid (HST.out (by rw [HR.out]; show (_ || (fb == 0)) = false; rw [hzq]; rfl))
              have hzb : (fb != 0) = true := by rw [bne, hzq]; rfl
              clear f0 hz
              go_wp2_with fail
              go_quiet (fail)
              go_wp2
              obtain ⟨hp, hbp⟩ := put_form (w := wr.drewN nq) (s1 := ⟨#[]⟩) (F1 := 0) HQF.out (base := w.heap.size) (by have := HQ.out; omega)
              refine bodyPost_ret (results_form rfl _ _ (q + 1) 65 #[.string ⟨#[]⟩, .int .i64 0] (0, 0) _ rfl hp Tryd.underlying65 rfl (by kernel_rfl)) rfl ?_
              have hbx : Below w.heap.size w W3 := HQ.out ▸ HX.out.1
              exact ⟨⟨#[]⟩, 0, by rw [HN.out]; rfl, (hbx.trans ((below_drewN HK.out.2 _).mono hbx.size)).trans hbp, fun h => by rw [HN.out] at h; cases h⟩
          · by_cases hz : fb = 0
            · have HN := Lib.hid (HNX.out (by rw [HR.out]; show (_ || (fb == 0)) = true; rw [hz]; rfl))
              have hzb : (fb != 0) = false := by rw [hz]; rfl
              clear f0 hz
              go_wp2_with fail
              go_quiet (fail)
              go_wp2
              go_roundg (gk - 1)
              case measure => omega
              case rel => exact ⟨2, by omega, rfl, Lib.hid ⟨HN.out, below_drewN HK.out.2 _⟩⟩
            · have hzq : (fb == 0) = false := by simpa using hz
              have HN := Lib.hid (HST.out (by rw [HR.out]; show (_ || (fb == 0)) = false; rw [hzq]; rfl))
              have hzb : (fb != 0) = true := by rw [bne, hzq]; rfl
              clear f0 hz
              go_wp2_with fail
              go_quiet (fail)
              go_wp2
              obtain ⟨hp, hbp⟩ := put_form (w := wr.drewN nq) (s1 := ⟨#[]⟩) (F1 := 0) HQF.out (base := w.heap.size) (by have := HQ.out; omega)
              refine bodyPost_ret (results_form rfl _ _ (q + 1) 65 #[.string ⟨#[]⟩, .int .i64 0] (0, 0) _ rfl hp Tryd.underlying65 rfl (by kernel_rfl)) rfl ?_
              have hbx : Below w.heap.size w W3 := HQ.out ▸ HX.out.1
              exact ⟨⟨#[]⟩, 0, by rw [HN.out]; rfl, (hbx.trans ((below_drewN HK.out.2 _).mono hbx.size)).trans hbp, fun h => by rw [HN.out] at h; cases h⟩
        · have hix := idx4_2 fa fb fc fn wr
          rcases hvals with rfl | rfl | rfl | rfl | rfl | rfl
          · by_cases hz : fc = 0
            · have HN := Lib.hid (HNX.out (by rw [HR.out]; show (_ || (fc == 0)) = true; rw [hz]; rfl))
              have hzb : (fc != 0) = false := by rw [hz]; rfl
              clear f0 hz
              go_wp2_with fail
              go_quiet (fail)
              go_wp2
              go_roundg (gk - 1)
              case measure => omega
              case rel => exact ⟨3, by omega, rfl, Lib.hid ⟨HN.out, below_drewN HK.out.2 _⟩⟩
            · have hzq : (fc == 0) = false := by simpa using hz
              have HN := Lib.hid (HST.out (by rw [HR.out]; show (_ || (fc == 0)) = false; rw [hzq]; rfl))
              have hzb : (fc != 0) = true := by rw [bne, hzq]; rfl
              clear f0 hz
              go_wp2_with fail
              go_quiet (fail)
              go_wp2
              obtain ⟨hp, hbp⟩ := put_form (w := wr.drewN nq) (s1 := ⟨#[]⟩) (F1 := 0) HQF.out (base := w.heap.size) (by have := HQ.out; omega)
              refine bodyPost_ret (results_form rfl _ _ (q + 1) 65 #[.string ⟨#[]⟩, .int .i64 0] (0, 0) _ rfl hp Tryd.underlying65 rfl (by kernel_rfl)) rfl ?_
              have hbx : Below w.heap.size w W3 := HQ.out ▸ HX.out.1
              exact ⟨⟨#[]⟩, 0, by rw [HN.out]; rfl, (hbx.trans ((below_drewN HK.out.2 _).mono hbx.size)).trans hbp, fun h => by rw [HN.out] at h; cases h⟩
          · by_cases hz : fc = 0
            · have HN := Lib.hid (HNX.out (by rw [HR.out]; show (_ || (fc == 0)) = true; rw [hz]; rfl))
              have hzb : (fc != 0) = false := by rw [hz]; rfl
              clear f0 hz
              go_wp2_with fail
              go_quiet (fail)
              go_wp2
              go_roundg (gk - 1)
              case measure => omega
              case rel => exact ⟨3, by omega, rfl, Lib.hid ⟨HN.out, below_drewN HK.out.2 _⟩⟩
            · have hzq : (fc == 0) = false := by simpa using hz
              have HN := Lib.hid (HST.out (by rw [HR.out]; show (_ || (fc == 0)) = false; rw [hzq]; rfl))
              have hzb : (fc != 0) = true := by rw [bne, hzq]; rfl
              clear f0 hz
              go_wp2_with fail
              go_quiet (fail)
              go_wp2
              obtain ⟨hp, hbp⟩ := put_form (w := wr.drewN nq) (s1 := ⟨#[]⟩) (F1 := 0) HQF.out (base := w.heap.size) (by have := HQ.out; omega)
              refine bodyPost_ret (results_form rfl _ _ (q + 1) 65 #[.string ⟨#[]⟩, .int .i64 0] (0, 0) _ rfl hp Tryd.underlying65 rfl (by kernel_rfl)) rfl ?_
              have hbx : Below w.heap.size w W3 := HQ.out ▸ HX.out.1
              exact ⟨⟨#[]⟩, 0, by rw [HN.out]; rfl, (hbx.trans ((below_drewN HK.out.2 _).mono hbx.size)).trans hbp, fun h => by rw [HN.out] at h; cases h⟩
          · by_cases hz : fc = 0
            · have HN := Lib.hid (HNX.out (by rw [HR.out]; show (_ || (fc == 0)) = true; rw [hz]; rfl))
              have hzb : (fc != 0) = false := by rw [hz]; rfl
              clear f0 hz
              go_wp2_with fail
              go_quiet (fail)
              go_wp2
              go_roundg (gk - 1)
              case measure => omega
              case rel => exact ⟨3, by omega, rfl, Lib.hid ⟨HN.out, below_drewN HK.out.2 _⟩⟩
            · have hzq : (fc == 0) = false := by simpa using hz
              have HN := Lib.hid (HST.out (by rw [HR.out]; show (_ || (fc == 0)) = false; rw [hzq]; rfl))
              have hzb : (fc != 0) = true := by rw [bne, hzq]; rfl
              clear f0 hz
              go_wp2_with fail
              go_quiet (fail)
              go_wp2
              obtain ⟨hp, hbp⟩ := put_form (w := wr.drewN nq) (s1 := ⟨#[]⟩) (F1 := 0) HQF.out (base := w.heap.size) (by have := HQ.out; omega)
              refine bodyPost_ret (results_form rfl _ _ (q + 1) 65 #[.string ⟨#[]⟩, .int .i64 0] (0, 0) _ rfl hp Tryd.underlying65 rfl (by kernel_rfl)) rfl ?_
              have hbx : Below w.heap.size w W3 := HQ.out ▸ HX.out.1
              exact ⟨⟨#[]⟩, 0, by rw [HN.out]; rfl, (hbx.trans ((below_drewN HK.out.2 _).mono hbx.size)).trans hbp, fun h => by rw [HN.out] at h; cases h⟩
          · have HN := Lib.hid (HNX.out (by rw [HR.out]; rfl))
            clear f0
            go_wp2_with fail
            go_quiet (fail)
            go_wp2
            go_roundg (gk - 1)
            case measure => omega
            case rel => exact ⟨3, by omega, rfl, Lib.hid ⟨HN.out, below_drewN HK.out.2 _⟩⟩
          · by_cases hz : fc = 0
            · have HN := Lib.hid (HNX.out (by rw [HR.out]; show (_ || (fc == 0)) = true; rw [hz]; rfl))
              have hzb : (fc != 0) = false := by rw [hz]; rfl
              clear f0 hz
              go_wp2_with fail
              go_quiet (fail)
              go_wp2
              go_roundg (gk - 1)
              case measure => omega
              case rel => exact ⟨3, by omega, rfl, Lib.hid ⟨HN.out, below_drewN HK.out.2 _⟩⟩
            · have hzq : (fc == 0) = false := by simpa using hz
              have HN := Lib.hid (HST.out (by rw [HR.out]; show (_ || (fc == 0)) = false; rw [hzq]; rfl))
              have hzb : (fc != 0) = true := by rw [bne, hzq]; rfl
              clear f0 hz
              go_wp2_with fail
              go_quiet (fail)
              go_wp2
              obtain ⟨hp, hbp⟩ := put_form (w := wr.drewN nq) (s1 := ⟨#[]⟩) (F1 := 0) HQF.out (base := w.heap.size) (by have := HQ.out; omega)
              refine bodyPost_ret (results_form rfl _ _ (q + 1) 65 #[.string ⟨#[]⟩, .int .i64 0] (0, 0) _ rfl hp Tryd.underlying65 rfl (by kernel_rfl)) rfl ?_
              have hbx : Below w.heap.size w W3 := HQ.out ▸ HX.out.1
              exact ⟨⟨#[]⟩, 0, by rw [HN.out]; rfl, (hbx.trans ((below_drewN HK.out.2 _).mono hbx.size)).trans hbp, fun h => by rw [HN.out] at h; cases h⟩
          · by_cases hz : fc = 0
            · have HN := Lib.hid (HNX.out (by rw [HR.out]; show (_ || (fc == 0)) = true; rw [hz]; rfl))
              have hzb : (fc != 0) = false := by rw [hz]; rfl
              clear f0 hz
              go_wp2_with fail
              go_quiet (fail)
              go_wp2
              go_roundg (gk - 1)
              case measure => omega
              case rel => exact ⟨3, by omega, rfl, Lib.hid ⟨HN.out, below_drewN HK.out.2 _⟩⟩
            · have hzq : (fc == 0) = false := by simpa using hz
              have HN := Lib.hid (HST.out (by rw [HR.out]; show (_ || (fc == 0)) = false; rw [hzq]; rfl))
              have hzb : (fc != 0) = true := by rw [bne, hzq]; rfl
              clear f0 hz
              go_wp2_with fail
              go_quiet (fail)
              go_wp2
              obtain ⟨hp, hbp⟩ := put_form (w := wr.drewN nq) (s1 := ⟨#[]⟩) (F1 := 0) HQF.out (base := w.heap.size) (by have := HQ.out; omega)
              refine bodyPost_ret (results_form rfl _ _ (q + 1) 65 #[.string ⟨#[]⟩, .int .i64 0] (0, 0) _ rfl hp Tryd.underlying65 rfl (by kernel_rfl)) rfl ?_
              have hbx : Below w.heap.size w W3 := HQ.out ▸ HX.out.1
              exact ⟨⟨#[]⟩, 0, by rw [HN.out]; rfl, (hbx.trans ((below_drewN HK.out.2 _).mono hbx.size)).trans hbp, fun h => by rw [HN.out] at h; cases h⟩
        · have hix := idx4_3 fa fb fc fn wr
          rcases hvals with rfl | rfl | rfl | rfl | rfl | rfl
          · by_cases hz : fn = 0
            · have HN := Lib.hid (HNX.out (by rw [HR.out]; show (_ || (fn == 0)) = true; rw [hz]; rfl))
              have hzb : (fn != 0) = false := by rw [hz]; rfl
              clear f0 hz
              go_wp2_with fail
              go_quiet (fail)
              go_wp2
              go_roundg (gk - 1)
              case measure => omega
              case rel => exact ⟨4, by omega, rfl, Lib.hid ⟨HN.out, below_drewN HK.out.2 _⟩⟩
            · have hzq : (fn == 0) = false := by simpa using hz
              have HN := Lib.hid (HST.out (by rw [HR.out]; show (_ || (fn == 0)) = false; rw [hzq]; rfl))
              have hzb : (fn != 0) = true := by rw [bne, hzq]; rfl
              clear f0 hz
              go_wp2_with fail
              go_quiet (fail)
              go_wp2
              obtain ⟨hp, hbp⟩ := put_form (w := wr.drewN nq) (s1 := ⟨#[]⟩) (F1 := 0) HQF.out (base := w.heap.size) (by have := HQ.out; omega)
              refine bodyPost_ret (results_form rfl _ _ (q + 1) 65 #[.string ⟨#[]⟩, .int .i64 0] (0, 0) _ rfl hp Tryd.underlying65 rfl (by kernel_rfl)) rfl ?_
              have hbx : Below w.heap.size w W3 := HQ.out ▸ HX.out.1
              exact ⟨⟨#[]⟩, 0, by rw [HN.out]; rfl, (hbx.trans ((below_drewN HK.out.2 _).mono hbx.size)).trans hbp, fun h => by rw [HN.out] at h; cases h⟩
          · by_cases hz : fn = 0
            · have HN := Lib.hid (HNX.out (by rw [HR.out]; show (_ || (fn == 0)) = true; rw [hz]; rfl))
              have hzb : (fn != 0) = false := by rw [hz]; rfl
              clear f0 hz
              go_wp2_with fail
              go_quiet (fail)
              go_wp2
              go_roundg (gk - 1)
              case measure => omega
              case rel => exact ⟨4, by omega, rfl, Lib.hid ⟨HN.out, below_drewN HK.out.2 _⟩⟩
            · have hzq : (fn == 0) = false := by simpa using hz
              have HN := Lib.hid (HST.out (by rw [HR.out]; show (_ || (fn == 0)) = false; rw [hzq]; rfl))
              have hzb : (fn != 0) = true := by rw [bne, hzq]; rfl
              clear f0 hz
              go_wp2_with fail
              go_quiet (fail)
              go_wp2
              obtain ⟨hp, hbp⟩ := put_form (w := wr.drewN nq) (s1 := ⟨#[]⟩) (F1 := 0) HQF.out (base := w.heap.size) (by have := HQ.out; omega)
              refine bodyPost_ret (results_form rfl _ _ (q + 1) 65 #[.string ⟨#[]⟩, .int .i64 0] (0, 0) _ rfl hp Tryd.underlying65 rfl (by kernel_rfl)) rfl ?_
              have hbx : Below w.heap.size w W3 := HQ.out ▸ HX.out.1
              exact ⟨⟨#[]⟩, 0, by rw [HN.out]; rfl, (hbx.trans ((below_drewN HK.out.2 _).mono hbx.size)).trans hbp, fun h => by rw [HN.out] at h; cases h⟩
          · by_cases hz : fn = 0
            · have HN := Lib.hid (HNX.out (by rw [HR.out]; show (_ || (fn == 0)) = true; rw [hz]; rfl))
              have hzb : (fn != 0) = false := by rw [hz]; rfl
              clear f0 hz
              go_wp2_with fail
              go_quiet (fail)
              go_wp2
              go_roundg (gk - 1)
              case measure => omega
              case rel => exact ⟨4, by omega, rfl, Lib.hid ⟨HN.out, below_drewN HK.out.2 _⟩⟩
            · have hzq : (fn == 0) = false := by simpa using hz
              have HN := Lib.hid (HST.out (by rw [HR.out]; show (_ || (fn == 0)) = false; rw [hzq]; rfl))
              have hzb : (fn != 0) = true := by rw [bne, hzq]; rfl
              clear f0 hz
              go_wp2_with fail
              go_quiet (fail)
              go_wp2
              obtain ⟨hp, hbp⟩ := put_form (w := wr.drewN nq) (s1 := ⟨#[]⟩) (F1 := 0) HQF.out (base := w.heap.size) (by have := HQ.out; omega)
              refine bodyPost_ret (results_form rfl _ _ (q + 1) 65 #[.string ⟨#[]⟩, .int .i64 0] (0, 0) _ rfl hp Tryd.underlying65 rfl (by kernel_rfl)) rfl ?_
              have hbx : Below w.heap.size w W3 := HQ.out ▸ HX.out.1
              exact ⟨⟨#[]⟩, 0, by rw [HN.out]; rfl, (hbx.trans ((below_drewN HK.out.2 _).mono hbx.size)).trans hbp, fun h => by rw [HN.out] at h; cases h⟩
          · by_cases hz : fn = 0
            · have HN := Lib.hid (HNX.out (by rw [HR.out]; show (_ || (fn == 0)) = true; rw [hz]; rfl))
              have hzb : (fn != 0) = false := by rw [hz]; rfl
              clear f0 hz
              go_wp2_with fail
              go_quiet (fail)
              go_wp2
              go_roundg (gk - 1)
              case measure => omega
              case rel => exact ⟨4, by omega, rfl, Lib.hid ⟨HN.out, below_drewN HK.out.2 _⟩⟩
            · have hzq : (fn == 0) = false := by simpa using hz
              have HN := Lib.hid (HST.out (by rw [HR.out]; show (_ || (fn == 0)) = false; rw [hzq]; rfl))
              have hzb : (fn != 0) = true := by rw [bne, hzq]; rfl
              clear f0 hz
              go_wp2_with fail
              go_quiet (fail)
              go_wp2
              obtain ⟨hp, hbp⟩ := put_form (w := wr.drewN nq) (s1 := ⟨#[]⟩) (F1 := 0) HQF.out (base := w.heap.size) (by have := HQ.out; omega)
              refine bodyPost_ret (results_form rfl _ _ (q + 1) 65 #[.string ⟨#[]⟩, .int .i64 0] (0, 0) _ rfl hp Tryd.underlying65 rfl (by kernel_rfl)) rfl ?_
              have hbx : Below w.heap.size w W3 := HQ.out ▸ HX.out.1
              exact ⟨⟨#[]⟩, 0, by rw [HN.out]; rfl, (hbx.trans ((below_drewN HK.out.2 _).mono hbx.size)).trans hbp, fun h => by rw [HN.out] at h; cases h⟩
          · have HN := Lib.hid (HNX.out (by rw [HR.out]; rfl))
            clear f0
            go_wp2_with fail
            go_quiet (fail)
            go_wp2
            go_roundg (gk - 1)
            case measure => omega
            case rel => exact ⟨4, by omega, rfl, Lib.hid ⟨HN.out, below_drewN HK.out.2 _⟩⟩
          · have HN := Lib.hid (HNX.out (by rw [HR.out]; rfl))
            clear f0
            go_wp2_with fail
            go_quiet (fail)
            go_wp2
            go_roundg (gk - 1)
            case measure => omega
            case rel => exact ⟨4, by omega, rfl, Lib.hid ⟨HN.out, below_drewN HK.out.2 _⟩⟩
      · obtain rfl : k = 4 := by omega
        have HN := Lib.hid (show formB ⟨(n : Int), fa, fb, fc, fn⟩ = true by rw [HV.out.1, HK.out.1])
        go_wp2
        obtain ⟨hp, hbp⟩ := put_form (s1 := s) (F1 := F) HQF.out (base := w.heap.size) (by have := HQ.out; omega)
        refine bodyPost_ret (results_form rfl _ _ (q + 1) 65 #[.string s, .int .i64 (F)] (0, 0) _ rfl hp Tryd.underlying65 rfl (by kernel_rfl)) rfl ?_
        have hbx : Below w.heap.size w W3 := HQ.out ▸ HX.out.1
        exact ⟨s, F, by rw [HN.out]; rfl, (hbx.trans (HK.out.2.mono hbx.size)).trans hbp, fun _ => HV.out.2.symm⟩

end Go.Proofs.YtdkafajmhgfkoaaDoor
