
/-
  The walk of the law FnMachForm: what the first functions are.
-/
import Derived.Test.YtdkafajmhgfkoaaDoorMd7
import Derived.Test.YtdkafajmhgfkoaaDoorMs
import Derived.Deep.RegionLaw
namespace Go.Proofs.YtdkafajmhgfkoaaDoor
open Go.RowKit

theorem machS_sign (fs : List MfnD) : decide (0 ≤ machS fs) = machV fs := by
  unfold machS
  cases machV fs <;> simp
theorem flatten_take3 {α : Type} {s : Nat} : ∀ (cells : List (List α)), (∀ c ∈ cells, c.length = s) → ∀ n, (cells.take n).flatten = cells.flatten.take (n * s)
  | _, _, 0 => by simp
  | [], _, n + 1 => by simp
  | c :: cells, h, n + 1 => by
    have hc := h c (by simp)
    rw [List.take_succ_cons, List.flatten_cons, List.flatten_cons, flatten_take3 cells (fun x hx => h x (by simp [hx])) n, Nat.add_mul, Nat.one_mul, Nat.add_comm, ← hc, List.take_length_add_append]
theorem rowAt_take {w : World} {a : Option Addr} {vs : List Value} (h : RowAt w a vs) (n : Nat) : RowAt w a (vs.take n) := by
  rcases h with rfl | ⟨b, off, rfl, h⟩
  · exact .inl (by simp)
  · refine .inr ⟨b, off, rfl, fun i v hv => h i v ?_⟩
    by_cases hi : i < n
    · rwa [List.getElem?_take_of_lt hi] at hv
    · rw [List.getElem?_eq_none (by rw [List.length_take]; omega)] at hv
      cases hv
theorem sliceRd_take {w : World} {a : Option Addr} {fs : List MfnD} (h : SliceRd 3 MfnR w a fs.length fs) {n : Nat} (hn : n ≤ fs.length) : SliceRd 3 MfnR w a (fs.take n).length (fs.take n) := by
  obtain ⟨hl, cells, h1, h2, h3, h4⟩ := h
  have hcl : (cells.take n).flatten = cells.flatten.take (n * 3) := flatten_take3 cells h3 n
  refine ⟨rfl, cells.take n, ?_, by simp only [List.length_take]; omega, fun c hc => h3 c (List.mem_of_mem_take hc), fun i c x hc hx => ?_⟩
  · rw [hcl]
    exact rowAt_take h1 _
  · have hi : i < n := by
      have := (List.getElem?_eq_some_iff.1 hc).1
      rw [List.length_take] at this
      omega
    rw [List.getElem?_take_of_lt hi] at hc hx
    exact h4 i c x hc hx
theorem szS_take (fs : List MfnD) (n : Nat) : szS szMfnD (fs.take n) ≤ szS szMfnD fs := by
  have := sumOf_take szMfnD fs n
  unfold szS
  simp only [List.length_take]
  omega

set_option maxRecDepth 100000 in
set_option maxHeartbeats 4000000 in
theorem fnMachForm_walk (a : Option Addr) (len cap : Nat) (zs : List Int) (w : World) (hF : FormsAt w) (hrow : IsRow .u8 w a len cap zs) :
    Calls Tryd.prog 3 #[.slice a len cap] w fun e w' => e = .returned (.bool true) ∧ Below w.heap.size w w' := by
  have hin := bytes_of_row hrow
  have hcap := cap_of_row hrow
  clear hrow
  by_cases hbig : 1048576 < len
  · go_enter Tryd.func3, Tryd.ntmps3
    go_wp2
    go_ret
    exact ⟨rfl, Below.refl _ _⟩
  · go_enter Tryd.func3, Tryd.ntmps3
    go_wp2_with fail
    refine (drawMachValid_any w a len cap _ hin hcap).mono ?_
    rintro e w1 ⟨_, mc, fs, rfl, ⟨hn1, hn3⟩, ⟨hsz, ⟨mg, rfl⟩, hmc⟩, hM, hb1⟩
    clear hin hcap
    have hba : Below w1.heap.size w1 (w1.alloc (.cells #[.slice (some ⟨mg, 0, none⟩) fs.length mc] 25)) := (Below.refl _ _).alloc (Nat.le_refl _) _
    have H1 := Lib.hid (And.intro (hM.later mfnR_lasts hba) (And.intro (hb1.trans (hba.mono hb1.size)) (And.intro (heap_alloc_new w1 (.cells #[.slice (some ⟨mg, 0, none⟩) fs.length mc] 25)) (show szS szMfnD fs ≤ 1048576 by omega))))
    have HF := Lib.hid hF
    have k1 := cell_of_row _ _ 0 _ _ _ H1.out.2.2.1
    simp only [List.getElem?_toArray, List.getElem?_cons_zero] at k1
    clear hM hb1 hba hF hsz
    have HK1 := Lib.hid k1
    go_wp2_with fail
    generalize w1.alloc (.cells #[.slice (some ⟨mg, 0, none⟩) fs.length mc] 25) = W2 at H1 k1 ⊢
    obtain ⟨bm, hbm⟩ : ∃ b, b = w1.heap.size := ⟨_, rfl⟩
    rw [← hbm] at H1 k1 ⊢
    clear hbm
    have HV := Lib.hid (fun (W : World) (hW : Below W2.heap.size W2 W) => implMachValid_any fs (some ⟨mg, 0, none⟩) mc H1.out.2.2.2 W (HF.out.later (H1.out.2.1.trans (hW.mono H1.out.2.1.size))) (H1.out.1.later mfnR_lasts hW))
    have HVS := Lib.hid (fun (W : World) (hW : Below W2.heap.size W2 W) => specMachValid_any fs (some ⟨mg, 0, none⟩) mc H1.out.2.2.2 W (H1.out.1.later mfnR_lasts hW))
    have HS := Lib.hid (fun (W : World) (hW : Below W2.heap.size W2 W) => implMachSize_any fs (some ⟨mg, 0, none⟩) mc H1.out.2.2.2 W (HF.out.later (H1.out.2.1.trans (hW.mono H1.out.2.1.size))) (H1.out.1.later mfnR_lasts hW))
    have HSS := Lib.hid (fun (W : World) (hW : Below W2.heap.size W2 W) => specMachSize_any fs (some ⟨mg, 0, none⟩) mc H1.out.2.2.2 W (H1.out.1.later mfnR_lasts hW))
    refine (HV.out _ (Below.refl _ _)).mono ?_
    rintro e w3 ⟨rfl, hb3⟩
    have k3 := cell_later hb3 k1
    have H3 := Lib.hid hb3
    clear hb3 k1
    have hne1 : (machV fs != machV fs) = false := by simp
    have hne2 : (machS fs != machS fs) = false := by simp
    have hne3 := machS_sign fs
    have HVV := Lib.hid (fun (n : Nat) (h1 : 1 ≤ n) (hn : n ≤ fs.length) (h : machV fs = true) => machV_take h h1 hn)
    generalize machV fs = is at HV HVS hne1 hne3 HVV ⊢
    generalize machS fs = v at HS HSS hne2 hne3 ⊢
    go_upto_region 5 with fail
    go_region_law (first | (go_simp; go_at_call 10; refine (HVS.out _ (below_drewN H3.out _)).mono ?_; rintro e w4 ⟨rfl, hb4⟩; (have hb34 : Below w3.heap.size w3 w4 := ⟨hb4.os, hb4.tape, hb4.output, hb4.size, hb4.block⟩); (have k4 := cell_later hb34 k3); (have hb24 := H3.out.trans (hb34.mono H3.out.size))) | (go_simp; go_at_call 11; refine (HS.out w4 hb24).mono ?_; rintro e w5 ⟨rfl, hb5⟩; (have k5 := cell_later hb5 k4); (have hb25 := hb24.trans (hb5.mono hb24.size))) | (go_simp; go_at_call 12; refine (HSS.out w5 hb25).mono ?_; rintro e w6 ⟨rfl, hb6⟩; (have k6 := cell_later hb6 k5); (have hb26 := hb25.trans (hb6.mono hb25.size))) | (go_simp; go_at_call 11; refine (HS.out w6 hb26).mono ?_; rintro e w7 ⟨rfl, hb7⟩; (have k7 := cell_later hb7 k6); (have hb27 := hb26.trans (hb7.mono hb26.size))))
    all_goals
      clear k3 k4 k5 k6 hb24 hb25 hb26 hb34 hb4 hb5 hb6 hb7 k7
      have HB := Lib.hid hb27
      clear hb27
      go_wp2_with fail
      clear hne1 hne2 hne3
      go_loopg [5] fs.length (fun F i wr => ∃ k : Nat, k + F ≤ fs.length + 1 ∧ 1 ≤ k ∧ fs.length ≤ k + F ∧ i = .int .i64 k ∧ Hid (Below W2.heap.size W2 wr))
      case atStart => exact ⟨1, by omega, by omega, by omega, rfl, Lib.hid HB.out⟩
      case round =>
        obtain ⟨k, hk0, hk1, hk, rfl, HK⟩ := hrel
        have kM : wr.cell? ⟨bm, 0, none⟩ = some (.slice (some ⟨mg, 0, none⟩) fs.length mc) := cell_of_row _ _ 0 _ _ _ ((HK.out.block _ (Array.getElem?_eq_some_iff.1 H1.out.2.2.1).1).trans H1.out.2.2.1)
        by_cases hlt : k < fs.length
        · have hki : (k : Int) < (fs.length : Int) := by omega
          have hkc : (k : Int) ≤ (mc : Int) := by omega
          have hkw : IntKind.i64.wrap (k : Int) = (k : Int) := IntWalk.i64_in _ (by omega)
          cases is
          · go_wp2
            go_roundg (gk - 1)
            case measure => omega
            case rel => exact ⟨k + 1, by omega, by omega, by omega, by go_num, HK⟩
          · have hl : (fs.take k).length = k := by rw [List.length_take]; omega
            have HC := Lib.hid (implMachValid_any (fs.take k) (some ⟨mg, 0, none⟩) mc (Nat.le_trans (szS_take fs k) H1.out.2.2.2) wr (HF.out.later (H1.out.2.1.trans (HK.out.mono H1.out.2.1.size))) (sliceRd_take (H1.out.1.later mfnR_lasts HK.out) (by omega)))
            rw [hl, HVV.out k hk1 (by omega) rfl] at HC
            clear hl
            go_wp2_with fail
            refine HC.out.mono ?_
            rintro e w9 ⟨rfl, hb9⟩
            have HE := Lib.hid (HK.out.trans (hb9.mono HK.out.size))
            clear hb9 kM
            go_wp2
            go_roundg (gk - 1)
            case measure => omega
            case rel => exact ⟨k + 1, by omega, by omega, by omega, by go_num, HE⟩
        · have hki : ¬ (k : Int) < (fs.length : Int) := by omega
          have HC := Lib.hid (implMachValid_any [] none 0 (by decide) wr (HF.out.later (H1.out.2.1.trans (HK.out.mono H1.out.2.1.size))) ⟨rfl, [], .inl rfl, rfl, by simp, by simp⟩)
          rw [show machV [] = false from rfl] at HC
          have hbK := H1.out.2.1.trans (HK.out.mono H1.out.2.1.size)
          have HBK := Lib.hid hbK
          clear hbK
          go_wp2_with fail
          refine HC.out.mono ?_
          rintro e w9 ⟨rfl, hb9⟩
          have HE := Lib.hid (HBK.out.trans (hb9.mono HBK.out.size))
          clear hb9 kM
          go_wp2
          go_ret
          exact ⟨rfl, HE.out⟩

end Go.Proofs.YtdkafajmhgfkoaaDoor
