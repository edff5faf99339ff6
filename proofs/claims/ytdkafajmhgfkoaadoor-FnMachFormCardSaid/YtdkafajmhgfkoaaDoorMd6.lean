
/-
  The reference draws a machine that may be bent (l22Bent): the walk.
-/
import Derived.Test.YtdkafajmhgfkoaaDoorMd4
import Derived.Test.YtdkafajmhgfkoaaDoorMd5
import Derived.Deep.DeepCutAuto
import Derived.Deep.RegionHeld3
import Derived.Deep.RegionLaw
namespace Go.Proofs.YtdkafajmhgfkoaaDoor
open Go.RowKit

/-- A machine was drawn, bent perhaps. -/
def BentDrawn (w : World) (br : Nat) (e : Ending) (w' : World) : Prop :=
  ∃ am nm cm fs, e = .returned (.agg #[.slice am nm cm]) ∧ FnsB w' w.heap.size am nm cm fs ∧ 1 ≤ nm ∧ nm ≤ 3 ∧ TurnBr br w w'

theorem bent_done {w0 w wr : World} {br : Nat} {a : Option Addr} {len cap : Nat} {bs : List Int} {bm : Nat} {am : Option Addr} {nm cm : Nat} {fs : List FnH} {p : Nat} (h : BentSt w0 w br a len cap bs bm am nm cm fs p wr) (h1 : 1 ≤ nm) (h3 : nm ≤ 3) :
    BentDrawn w br (.returned (.agg #[.slice am nm cm])) (wr.setCell ⟨w.heap.size, 0, none⟩ (.slice am nm cm)) := by
  have hl := h.lt
  have hts := turned_store wr w.heap.size 0 (.slice am nm cm)
  refine ⟨am, nm, cm, fs, rfl, ⟨own_turned h.fns.own hts (fun k hk => fns_not h.fns.own h.res (by decide) k hk), fun f hf => (h.fns.rows f hf).turned hts (fun k hk => ins_not (h.fns.rows f hf) h.res (by decide) k hk), h.fns.small⟩, h1, h3, ?_⟩
  exact h.turned.cell (Nat.le_refl _) _ _

set_option maxRecDepth 100000 in
set_option maxHeartbeats 8000000 in
theorem l22Bent_any (w0 w : World) (br : Nat) (a : Option Addr) (len cap : Nat) (bs : List Int) (hrd : Rd w0 w br a len cap bs 0) (hlen : len ≤ 2000) :
    Calls Tryd.prog 20 #[.pointer (some ⟨br, 0, none⟩)] w fun e w' => BentDrawn w br e w' := by
  have hb0 : Below w.heap.size w (w.alloc (.cells #[.slice none 0 0] 25)) := (Below.refl _ _).alloc (Nat.le_refl _) _
  have hA := heap_alloc_new w (.cells #[.slice none 0 0] 25)
  have H0 := Lib.hid (And.intro (hrd.below' hb0) (And.intro hb0 (And.intro hA hrd.lt)))
  clear hb0 hA hrd
  go_enter Tryd.func20, Tryd.ntmps20
  go_wp2_with fail
  generalize w.alloc (.cells #[.slice none 0 0] 25) = W1 at H0 ⊢
  refine (l22Mach_any w0 W1 br a len cap bs H0.out.1 hlen).mono ?_
  rintro e w2 ⟨am, nm, cm, fs, q, rfl, hrd2, hq, ht2, hF, hn1, hn3⟩
  obtain ⟨bm, hbm⟩ : ∃ b, b = w2.heap.size := ⟨_, rfl⟩
  have HB := Lib.hid (show BentSt w0 w br a len cap bs bm am nm cm fs q (w2.alloc (.cells #[.slice am nm cm] 25)) by
    subst hbm
    have hs1 := (Array.getElem?_eq_some_iff.1 H0.out.2.2.1).1
    have hs2 := ht2.size
    have hlt := H0.out.2.2.2
    have hb2 : Below w2.heap.size w2 (w2.alloc (.cells #[.slice am nm cm] 25)) := (Below.refl _ _).alloc (Nat.le_refl _) _
    refine ⟨hrd2.below' hb2, (TurnBr.of_below H0.out.2.1).trans (ht2.trans (TurnBr.of_below hb2)), hlt, ?_, heap_alloc_new w2 _, by omega, (hF.bent (Nat.le_of_lt hs1)).far (S := fun k => w2.heap.size ≤ k) (turned_of_below hb2 (fun k h1 h2 => h1)) (fun k hk => .inr hk)⟩
    exact (hb2.block _ (by omega)).trans (ht2.keeps H0.out.2.2.1 (by omega)))
  have HL := Lib.hid (fun f hf => (hF.small f hf).1)
  clear hrd2 ht2 hF H0
  have k0 : (w2.alloc (.cells #[.slice am nm cm] 25)).cell? ⟨bm, 0, none⟩ = some (.slice am nm cm) := cell_of_row _ _ 0 _ _ _ HB.out.mbox
  obtain ⟨g, f0, rfl, -⟩ := HB.out.fns.place (k := 0) (by omega)
  go_upto_region 2 with fail
  rw [← hbm]
  generalize w2.alloc (.cells #[.slice (some ⟨g, 0, none⟩) nm cm] 25) = W3 at HB k0 ⊢
  clear hbm
  go_cut [4] (fun s wx => ∃ k, s = .pointer (some ⟨g, k * 3, none⟩) ∧ Hid (k < nm ∧ BentSt w0 w br a len cap bs bm (some ⟨g, 0, none⟩) nm cm fs (q + 1) wx))
  case first =>
    have HDR := Lib.hid (fun nq => HB.out.below (below_drewN (Below.refl _ _) nq))
    have HP := Lib.hid (fun nq => pick_any w0 (W3.drewN nq) br a len cap bs q nm (HDR.out nq).rd (by omega) hlen (by omega))
    go_region_law (go_simp; go_at_call 39; refine (HP.out _).mono ?_; rintro e w4 ⟨pv, hp0, hp1, rfl, hrd4, hg4⟩; (obtain ⟨k, rfl⟩ := Int.eq_ofNat_of_zero_le hp0); (have hk : k < nm := by omega); (have H4 := (HDR.out _).grown hg4 hrd4); (have k4 : w4.cell? ⟨bm, 0, none⟩ = some (.slice (some ⟨g, 0, none⟩) nm cm) := cell_of_row _ _ 0 _ _ _ H4.mbox))
    all_goals
      have HE := Lib.hid (And.intro hk H4)
      clear hrd4 hg4 HP HDR k0 hp0 hp1 hk H4
      go_wp2_with fail
      go_meet
      exact ⟨k, rfl, HE⟩
  case rest =>
  obtain ⟨k, rfl, HC⟩ := hcut
  clear HB k0
  obtain ⟨g', f, hg', hf, c0, c1, c2, fz, hlo, hlt⟩ := HC.out.2.fns.place HC.out.1
  cases hg'
  have HF := Lib.hid (And.intro hf (List.mem_of_getElem? hf))
  clear hf fz hlo hlt c0 c1
  obtain ⟨fp, fs2, fa, fn, fc⟩ := f
  have hcs := HC.out.2.fns.rows _ HF.out.2
  have hsm := HC.out.2.fns.small _ HF.out.2
  simp only at hcs hsm c2
  have hfn : 1 ≤ fn := HL.out _ HF.out.2
  obtain ⟨gi, rfl, -⟩ := hcs.place (j := 0) (by omega)
  clear hcs
  go_upto_region 3 with fail
  go_cut [5] (fun s wx => ∃ j, s = .pointer (some ⟨gi, j * 5, none⟩) ∧ Hid (j < fn ∧ BentSt w0 w br a len cap bs bm (some ⟨g, 0, none⟩) nm cm fs (q + 1 + 1) wx))
  case first =>
    have HDR := Lib.hid (fun nq => HC.out.2.below (below_drewN (Below.refl _ _) nq))
    have HP := Lib.hid (fun nq => pick_any w0 (wc.drewN nq) br a len cap bs (q + 1) fn (HDR.out nq).rd (by omega) hlen (by omega))
    go_region_law (go_simp; go_at_call 39; refine (HP.out _).mono ?_; rintro e w4 ⟨pv, hp0, hp1, rfl, hrd4, hg4⟩; (obtain ⟨j, rfl⟩ := Int.eq_ofNat_of_zero_le hp0); (have hj : j < fn := by omega); (have H4 := (HDR.out _).grown hg4 hrd4); (have k4 : w4.cell? ⟨g, k * 3 + 2, none⟩ = some (.slice (some ⟨gi, 0, none⟩) fn fc) := by (obtain ⟨g', f', hg', hf', -, -, d2, -⟩ := H4.fns.place HC.out.1); (cases hg'); (cases hf'.symm.trans HF.out.1); (exact d2)))
    all_goals
      have HE := Lib.hid (And.intro hj H4)
      clear hrd4 hg4 HP HDR c2 hp0 hp1 hj H4
      go_wp2_with fail
      go_meet
      exact ⟨j, rfl, HE⟩
  case rest =>
  have HK := Lib.hid HC.out.1
  clear HC c2
  obtain ⟨j, rfl, HC⟩ := hcut
  have c2 : wc.cell? ⟨g, k * 3 + 2, none⟩ = some (.slice (some ⟨gi, 0, none⟩) fn fc) := by
    obtain ⟨g', f', hg', hf', -, -, d2, -⟩ := HC.out.2.fns.place HK.out
    cases hg'
    cases hf'.symm.trans HF.out.1
    exact d2
  go_wp2_with fail
  refine (num_any w0 _ br a len cap bs (q + 2) wc.heap.size 6 6 [-1, 8, 64, 300, fn, 1] (HC.out.2.rd.alloc _) (lit_rd wc [-1, 8, 64, 300, fn, 1] (by simp [maxLen])) (by have := HC.out.2.rd.lt; omega) (by omega) hlen (by omega)).mono ?_
  rintro e w5 ⟨bad, -, rfl, hrd5, hg5⟩
  have H5 := Lib.hid (HC.out.2.step ((TurnBr.of_below ((Below.refl wc.heap.size wc).alloc (Nat.le_refl _) (.cells ([-1, 8, 64, 300, (fn : Int), 1].map (Value.int .i64)).toArray 3))).trans (TurnBr.of_grown hg5)) hrd5)
  have HJ := Lib.hid HC.out.1
  clear hrd5 hg5 HC c2
  go_wp2_with fail
  refine (pick_any w0 _ br a len cap bs (q + 3) 28 H5.out.rd (by omega) hlen (by omega)).mono ?_
  rintro e w6 ⟨pv, hp0, hp1, rfl, hrd6, hg6⟩
  have H6 := Lib.hid (H5.out.grown hg6 hrd6)
  clear hrd6 hg6 H5
  have HI := Lib.hid (H6.out.fns.rows _ HF.out.2)
  have HO := Lib.hid (show InsOwn w6 w.heap.size (some ⟨gi, 0, none⟩) fn fc from HI.out)
  clear HI
  by_cases h0 : pv = 0
  · subst h0
    go_wp2_with fail
    refine (pick_any w0 _ br a len cap bs (q + 4) 25 H6.out.rd (by omega) hlen (by omega)).mono ?_
    rintro e w7 ⟨pw, hq0, hq1, rfl, hrd7, hg7⟩
    have H7 := Lib.hid (H6.out.grown hg7 hrd7)
    clear hrd7 hg7
    obtain ⟨gx, hgx, fz, -, -, hcx⟩ := (show InsOwn w7 w.heap.size (some ⟨gi, 0, none⟩) fn fc from H7.out.fns.rows _ HF.out.2).place HJ.out
    cases hgx
    obtain ⟨x0, hx0⟩ := hcx 0 (by omega)
    have z1 := fz (j * 5)
    rw [Nat.add_zero] at hx0
    clear fz hcx
    have hpw : IntKind.i64.wrap (pw - 1) = pw - 1 := IntWalk.i64_in _ (by omega)
    go_upto_region 20 with fail
    have HZ := Lib.hid ((H7).out.poke HF.out.2 rfl (j * 5) (pw - 1))
    generalize w7.setCell ⟨gi, j * 5, none⟩ (.int .i64 (pw - 1)) = wz at HZ ⊢
    have m0 : wz.cell? ⟨bm, 0, none⟩ = some (.slice (some ⟨g, 0, none⟩) nm cm) := cell_of_row _ _ 0 _ _ _ HZ.out.mbox
    have r0 := cell_of_row _ _ 0 _ _ _ HZ.out.res
    have z0 := frozen_of_row _ _ 0 _ _ HZ.out.res
    have HR := Lib.hid (show (wz.setCell ⟨w.heap.size, 0, none⟩ (.slice (some ⟨g, 0, none⟩) nm cm)).heap[w.heap.size]? = some (.cells #[.slice (some ⟨g, 0, none⟩) nm cm] 25 (0, 0)) by
      rw [heap_setCell_same wz w.heap.size 0 _ _ _ HZ.out.res]; rfl)
    have HE := Lib.hid (bent_done HZ.out hn1 hn3)
    go_wp2
    refine bodyPost_ret (results_cell_row rfl _ _ w.heap.size 25 _ (0, 0) _ rfl HR.out Tryd.underlying25 rfl (by kernel_rfl)) rfl ?_
    exact HE.out
  by_cases h1 : pv = 1
  · subst h1
    obtain ⟨gx, hgx, fz, -, -, hcx⟩ := HO.out.place HJ.out
    cases hgx
    obtain ⟨x0, hx0⟩ := hcx 1 (by omega)
    have z1 := fz (j * 5 + 1)
    clear fz hcx
    go_upto_region 20 with fail
    have HZ := Lib.hid ((H6).out.poke HF.out.2 rfl (j * 5 + 1) bad)
    generalize w6.setCell ⟨gi, j * 5 + 1, none⟩ (.int .i64 bad) = wz at HZ ⊢
    have m0 : wz.cell? ⟨bm, 0, none⟩ = some (.slice (some ⟨g, 0, none⟩) nm cm) := cell_of_row _ _ 0 _ _ _ HZ.out.mbox
    have r0 := cell_of_row _ _ 0 _ _ _ HZ.out.res
    have z0 := frozen_of_row _ _ 0 _ _ HZ.out.res
    have HR := Lib.hid (show (wz.setCell ⟨w.heap.size, 0, none⟩ (.slice (some ⟨g, 0, none⟩) nm cm)).heap[w.heap.size]? = some (.cells #[.slice (some ⟨g, 0, none⟩) nm cm] 25 (0, 0)) by
      rw [heap_setCell_same wz w.heap.size 0 _ _ _ HZ.out.res]; rfl)
    have HE := Lib.hid (bent_done HZ.out hn1 hn3)
    go_wp2
    refine bodyPost_ret (results_cell_row rfl _ _ w.heap.size 25 _ (0, 0) _ rfl HR.out Tryd.underlying25 rfl (by kernel_rfl)) rfl ?_
    exact HE.out
  by_cases h2 : pv = 2
  · subst h2
    obtain ⟨gx, hgx, fz, -, -, hcx⟩ := HO.out.place HJ.out
    cases hgx
    obtain ⟨x0, hx0⟩ := hcx 4 (by omega)
    have z1 := fz (j * 5 + 4)
    clear fz hcx
    go_upto_region 20 with fail
    have HZ := Lib.hid ((H6).out.poke HF.out.2 rfl (j * 5 + 4) bad)
    generalize w6.setCell ⟨gi, j * 5 + 4, none⟩ (.int .i64 bad) = wz at HZ ⊢
    have m0 : wz.cell? ⟨bm, 0, none⟩ = some (.slice (some ⟨g, 0, none⟩) nm cm) := cell_of_row _ _ 0 _ _ _ HZ.out.mbox
    have r0 := cell_of_row _ _ 0 _ _ _ HZ.out.res
    have z0 := frozen_of_row _ _ 0 _ _ HZ.out.res
    have HR := Lib.hid (show (wz.setCell ⟨w.heap.size, 0, none⟩ (.slice (some ⟨g, 0, none⟩) nm cm)).heap[w.heap.size]? = some (.cells #[.slice (some ⟨g, 0, none⟩) nm cm] 25 (0, 0)) by
      rw [heap_setCell_same wz w.heap.size 0 _ _ _ HZ.out.res]; rfl)
    have HE := Lib.hid (bent_done HZ.out hn1 hn3)
    go_wp2
    refine bodyPost_ret (results_cell_row rfl _ _ w.heap.size 25 _ (0, 0) _ rfl HR.out Tryd.underlying25 rfl (by kernel_rfl)) rfl ?_
    exact HE.out
  by_cases h3 : pv = 3
  · subst h3
    obtain ⟨gx, hgx, fz, -, -, hcx⟩ := HO.out.place HJ.out
    cases hgx
    obtain ⟨x0, hx0⟩ := hcx 3 (by omega)
    have z1 := fz (j * 5 + 3)
    clear fz hcx
    go_upto_region 20 with fail
    have HZ := Lib.hid ((H6).out.poke HF.out.2 rfl (j * 5 + 3) bad)
    generalize w6.setCell ⟨gi, j * 5 + 3, none⟩ (.int .i64 bad) = wz at HZ ⊢
    have m0 : wz.cell? ⟨bm, 0, none⟩ = some (.slice (some ⟨g, 0, none⟩) nm cm) := cell_of_row _ _ 0 _ _ _ HZ.out.mbox
    have r0 := cell_of_row _ _ 0 _ _ _ HZ.out.res
    have z0 := frozen_of_row _ _ 0 _ _ HZ.out.res
    have HR := Lib.hid (show (wz.setCell ⟨w.heap.size, 0, none⟩ (.slice (some ⟨g, 0, none⟩) nm cm)).heap[w.heap.size]? = some (.cells #[.slice (some ⟨g, 0, none⟩) nm cm] 25 (0, 0)) by
      rw [heap_setCell_same wz w.heap.size 0 _ _ _ HZ.out.res]; rfl)
    have HE := Lib.hid (bent_done HZ.out hn1 hn3)
    go_wp2
    refine bodyPost_ret (results_cell_row rfl _ _ w.heap.size 25 _ (0, 0) _ rfl HR.out Tryd.underlying25 rfl (by kernel_rfl)) rfl ?_
    exact HE.out
  by_cases h4 : pv = 4
  · subst h4
    go_wp2_with fail
    refine (num_any w0 _ br a len cap bs (q + 4) w6.heap.size 4 4 [65, -1, 0, 64] (H6.out.rd.alloc _) (lit_rd w6 [65, -1, 0, 64] (by decide)) (by have := H6.out.rd.lt; omega) (by omega) hlen (by omega)).mono ?_
    rintro e w7 ⟨pw, -, rfl, hrd7, hg7⟩
    have H7 := Lib.hid (H6.out.step ((TurnBr.of_below ((Below.refl w6.heap.size w6).alloc (Nat.le_refl _) (.cells ([65, -1, 0, 64].map (Value.int .i64)).toArray 3))).trans (TurnBr.of_grown hg7)) hrd7)
    clear hrd7 hg7
    obtain ⟨g', f', hg', hf', d0, d1, d2, fz, -⟩ := H7.out.fns.place HK.out
    cases hg'
    cases hf'.symm.trans HF.out.1
    have z1 := fz (k * 3 + 1)
    clear fz hf' d2
    have HI7 := Lib.hid (show InsOwn w7 w.heap.size (some ⟨gi, 0, none⟩) fn fc from H7.out.fns.rows _ HF.out.2)
    go_upto_region 20 with fail
    have HZ := Lib.hid (BentSt.put (f' := ⟨fp, pw, some ⟨gi, 0, none⟩, fn, fc⟩) (q := 1) (v := .int .i64 pw) H7.out HF.out.1 (by omega) rfl HI7.out hsm)
    generalize w7.setCell ⟨g, k * 3 + 1, none⟩ (.int .i64 pw) = wz at HZ ⊢
    have m0 : wz.cell? ⟨bm, 0, none⟩ = some (.slice (some ⟨g, 0, none⟩) nm cm) := cell_of_row _ _ 0 _ _ _ HZ.out.mbox
    have r0 := cell_of_row _ _ 0 _ _ _ HZ.out.res
    have z0 := frozen_of_row _ _ 0 _ _ HZ.out.res
    have HR := Lib.hid (show (wz.setCell ⟨w.heap.size, 0, none⟩ (.slice (some ⟨g, 0, none⟩) nm cm)).heap[w.heap.size]? = some (.cells #[.slice (some ⟨g, 0, none⟩) nm cm] 25 (0, 0)) by
      rw [heap_setCell_same wz w.heap.size 0 _ _ _ HZ.out.res]; rfl)
    have HE := Lib.hid (bent_done HZ.out hn1 hn3)
    go_wp2
    refine bodyPost_ret (results_cell_row rfl _ _ w.heap.size 25 _ (0, 0) _ rfl HR.out Tryd.underlying25 rfl (by kernel_rfl)) rfl ?_
    exact HE.out
  by_cases h5 : pv = 5
  · subst h5
    obtain ⟨g', f', hg', hf', d0, d1, d2, fz, -⟩ := H6.out.fns.place HK.out
    cases hg'
    cases hf'.symm.trans HF.out.1
    have z1 := fz (k * 3 + 2)
    clear fz hf' d0 d1
    obtain ⟨m, rfl⟩ : ∃ m, fn = m + 1 := ⟨fn - 1, by omega⟩
    have hcap : m + 1 ≤ fc := by obtain ⟨xs, hx⟩ := HO.out; exact (own_cap hx).1
    have HCAP := Lib.hid hcap
    have hmj : IntKind.i64.wrap (m : Int) = (m : Int) := IntWalk.i64_in _ (by omega)
    have hmr : 0 ≤ (m : Int) ∧ (m : Int) ≤ (fc : Int) := by omega
    go_upto_region 17 with fail
    go_region_law (fail)
    all_goals
      have HZ := Lib.hid (BentSt.below (BentSt.put (f' := ⟨fp, fs2, some ⟨gi, 0, none⟩, m, fc⟩) (q := 2) (v := .slice (some ⟨gi, 0, none⟩) m fc) H6.out HF.out.1 (by omega) rfl (InsOwn.less (m := m) HO.out (by omega) (by omega)) (show m ≤ 20 by omega)) (show Below _ _ (w6.setCell ⟨g, k * 3 + 2, none⟩ (.slice (some ⟨gi, 0, none⟩) m fc)).drew from below_drewN (Below.refl _ _) 1))
      generalize (w6.setCell ⟨g, k * 3 + 2, none⟩ (.slice (some ⟨gi, 0, none⟩) m fc)).drew = wz at HZ ⊢
      have m0 : wz.cell? ⟨bm, 0, none⟩ = some (.slice (some ⟨g, 0, none⟩) nm cm) := cell_of_row _ _ 0 _ _ _ HZ.out.mbox
      have r0 := cell_of_row _ _ 0 _ _ _ HZ.out.res
      have z0 := frozen_of_row _ _ 0 _ _ HZ.out.res
      have HR := Lib.hid (show (wz.setCell ⟨w.heap.size, 0, none⟩ (.slice (some ⟨g, 0, none⟩) nm cm)).heap[w.heap.size]? = some (.cells #[.slice (some ⟨g, 0, none⟩) nm cm] 25 (0, 0)) by
        rw [heap_setCell_same wz w.heap.size 0 _ _ _ HZ.out.res]; rfl)
      have HE := Lib.hid (bent_done HZ.out hn1 hn3)
      go_wp2
      refine bodyPost_ret (results_cell_row rfl _ _ w.heap.size 25 _ (0, 0) _ rfl HR.out Tryd.underlying25 rfl (by kernel_rfl)) rfl ?_
      exact HE.out
  by_cases h6 : pv = 6
  · subst h6
    go_wp2_with fail
    refine (num_any w0 _ br a len cap bs (q + 4) w6.heap.size 3 3 [4, -1, 0] (H6.out.rd.alloc _) (lit_rd w6 [4, -1, 0] (by decide)) (by have := H6.out.rd.lt; omega) (by omega) hlen (by omega)).mono ?_
    rintro e w7 ⟨pw, -, rfl, hrd7, hg7⟩
    have H7 := Lib.hid (H6.out.step ((TurnBr.of_below ((Below.refl w6.heap.size w6).alloc (Nat.le_refl _) (.cells ([4, -1, 0].map (Value.int .i64)).toArray 3))).trans (TurnBr.of_grown hg7)) hrd7)
    clear hrd7 hg7
    obtain ⟨g', f', hg', hf', d0, d1, d2, fz, -⟩ := H7.out.fns.place HK.out
    cases hg'
    cases hf'.symm.trans HF.out.1
    have z1 := fz (k * 3)
    clear fz hf' d2
    have HI7 := Lib.hid (show InsOwn w7 w.heap.size (some ⟨gi, 0, none⟩) fn fc from H7.out.fns.rows _ HF.out.2)
    go_upto_region 20 with fail
    have HZ := Lib.hid (BentSt.put (f' := ⟨pw, fs2, some ⟨gi, 0, none⟩, fn, fc⟩) (q := 0) (v := .int .i64 pw) H7.out HF.out.1 (by omega) rfl HI7.out hsm)
    generalize w7.setCell ⟨g, k * 3, none⟩ (.int .i64 pw) = wz at HZ ⊢
    have m0 : wz.cell? ⟨bm, 0, none⟩ = some (.slice (some ⟨g, 0, none⟩) nm cm) := cell_of_row _ _ 0 _ _ _ HZ.out.mbox
    have r0 := cell_of_row _ _ 0 _ _ _ HZ.out.res
    have z0 := frozen_of_row _ _ 0 _ _ HZ.out.res
    have HR := Lib.hid (show (wz.setCell ⟨w.heap.size, 0, none⟩ (.slice (some ⟨g, 0, none⟩) nm cm)).heap[w.heap.size]? = some (.cells #[.slice (some ⟨g, 0, none⟩) nm cm] 25 (0, 0)) by
      rw [heap_setCell_same wz w.heap.size 0 _ _ _ HZ.out.res]; rfl)
    have HE := Lib.hid (bent_done HZ.out hn1 hn3)
    go_wp2
    refine bodyPost_ret (results_cell_row rfl _ _ w.heap.size 25 _ (0, 0) _ rfl HR.out Tryd.underlying25 rfl (by kernel_rfl)) rfl ?_
    exact HE.out
  · go_upto_region 20 with fail
    have HZ := Lib.hid H6.out
    generalize w6 = wz at HZ ⊢
    have m0 : wz.cell? ⟨bm, 0, none⟩ = some (.slice (some ⟨g, 0, none⟩) nm cm) := cell_of_row _ _ 0 _ _ _ HZ.out.mbox
    have r0 := cell_of_row _ _ 0 _ _ _ HZ.out.res
    have z0 := frozen_of_row _ _ 0 _ _ HZ.out.res
    have HR := Lib.hid (show (wz.setCell ⟨w.heap.size, 0, none⟩ (.slice (some ⟨g, 0, none⟩) nm cm)).heap[w.heap.size]? = some (.cells #[.slice (some ⟨g, 0, none⟩) nm cm] 25 (0, 0)) by
      rw [heap_setCell_same wz w.heap.size 0 _ _ _ HZ.out.res]; rfl)
    have HE := Lib.hid (bent_done HZ.out hn1 hn3)
    go_wp2
    refine bodyPost_ret (results_cell_row rfl _ _ w.heap.size 25 _ (0, 0) _ rfl HR.out Tryd.underlying25 rfl (by kernel_rfl)) rfl ?_
    exact HE.out

end Go.Proofs.YtdkafajmhgfkoaaDoor
