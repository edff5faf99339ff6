
/-
  CodesNeeded, the reference's.
-/
import Derived.Test.YtonlidgmfmgcmaaGreatCn
import Derived.Test.YtonlidgmfmgcmaaGreatUvSpecUnit
import Derived.Deep.DeepCutAuto
import Derived.StillTailTactics
namespace Go.Proofs.YtonlidgmfmgcmaaGreat
open Go.RowKit

set_option maxRecDepth 100000 in
set_option maxHeartbeats 1000000 in
theorem l12List_any (a : Option Addr) (cap : Nat) (T : List Bool) (w : World) (hin : BoolsRd w a T.length T) (hs : T.length ≤ 1048576) :
    Calls Tryz.prog 20 #[.slice a T.length cap] w fun e w' => RetInts w (filtTo (fun m => T.getD m false) T.length) (filtTo (fun m => T.getD m false) T.length).length e w' := by
  have HE := Lib.hid (And.intro (own_empty w w.heap.size 3 1 (Nat.le_refl _)) ((Below.refl w.heap.size w).alloc (Nat.le_refl _) (.cells #[] 3)))
  go_enter Tryz.func20, Tryz.ntmps20
  go_wp2_with fail
  generalize w.alloc (.cells #[] 3) = W0 at HE ⊢
  go_loopg [3, 4] T.length (fun F o i wr => ∃ k : Nat, k + F = T.length ∧ i = .int .i64 k ∧ ∃ oa oc, o = .slice oa (filtTo (fun m => T.getD m false) k).length oc ∧
    Hid (wr.ownsRow w.heap.size 3 1 (.slice oa (filtTo (fun m => T.getD m false) k).length oc) (filtTo (fun m => T.getD m false) k).length ((filtTo (fun m => T.getD m false) k).map (Value.int .i64)) ∧ Below w.heap.size w wr))
  case atStart => exact ⟨0, by omega, rfl, _, _, rfl, HE⟩
  case round =>
    obtain ⟨k, hk, rfl, oa, oc, rfl, HK⟩ := hrel
    clear HE
    by_cases hlt : k < T.length
    · obtain ⟨b1, o1, x, rfl, hx, hc⟩ := (hin.later HK.out.2).place hlt
      have hki : (k : Int) < (T.length : Int) := by omega
      have hTk : T.getD k false = x := by rw [List.getD_eq_getElem?_getD, hx]; rfl
      have hfl := filtTo_len (fun m => T.getD m false) k
      have HS := Lib.hid (filtTo_succ (fun m => T.getD m false) k)
      rw [hTk] at HS
      have hsz := HK.out.2.size
      clear hx hTk
      generalize filtTo (fun m => T.getD m false) k = ss at HS HK hfl ⊢
      cases x with
      | true =>
        have hrow := HK.out.1
        go_wp2_with (at_builtin; refine app_ints rfl (.tmp 16) (.tmp 18) rfl w.heap.size _ ss.length _ rfl (hrow.alloc _) _ 1 _ [(k : Int)] rfl rfl (rowAt_one _ _ _) (by rintro ⟨⟩) (by omega) (by simp only [World.size_alloc]; omega) ?_; intro a5 c5 w5 hown5 hg5 hlies5)
        have HN := Lib.hid (And.intro hown5 ((HK.out.2.alloc hsz _).grown hg5 (by simp only [World.size_alloc]; omega) (fun j hj => (hrow.lt j hj).1)))
        clear hown5 hg5 hlies5 hrow
        go_roundg (gk - 1)
        case measure => omega
        case rel =>
          have he : filtTo (fun m => T.getD m false) (k + 1) = ss ++ [(k : Int)] := by rw [HS.out]; simp
          exact ⟨k + 1, by omega, by go_num, a5, c5, by rw [he, List.length_append]; rfl, Lib.hid (by rw [he, List.map_append, List.length_append]; exact HN.out)⟩
      | false =>
        go_wp2
        go_roundg (gk - 1)
        case measure => omega
        case rel =>
          have he : filtTo (fun m => T.getD m false) (k + 1) = ss := by rw [HS.out]; simp
          exact ⟨k + 1, by omega, by go_num, oa, oc, by rw [he], Lib.hid (by rw [he]; exact HK.out)⟩
    · obtain rfl : k = T.length := by omega
      go_wp2
      go_ret
      exact ⟨_, _, rfl, HK.out.1, HK.out.2⟩

theorem cell_keptB {w : World} {p A : Addr} {u v x : Value} (hp : w.cell? p = some v) (hA : w.cell? A = some x) (hne : x ≠ v) : (w.setCell p u).cell? A = some x := by
  have h : A ≠ p := fun e => by subst e; rw [hp] at hA; cases hA; exact hne rfl
  rw [World.cell?_setCell_other _ _ _ _ (fun e => h e.symm)]; exact hA
theorem rowAt_keptB {w : World} {p : Addr} {u v : Value} {a : Option Addr} {vs : List Value} (h : RowAt w a vs) (hp : w.cell? p = some v) (hv : ∀ x ∈ vs, x ≠ v) : RowAt (w.setCell p u) a vs := by
  rcases h with h0 | ⟨b, o, ha, hc⟩
  · exact .inl h0
  · exact .inr ⟨b, o, ha, fun i x hx => cell_keptB hp (hc i x hx) (hv x (List.mem_of_getElem? hx))⟩
theorem mat_keptB {w : World} {p : Addr} {u : Value} {v : Bool} {a : Option Addr} {n : Nat} {rs : List Hd} (h : MatRd w a n rs) (hp : w.cell? p = some (.bool v)) : MatRd (w.setCell p u) a n rs :=
  ⟨h.length, rowAt_keptB h.row hp (fun x hx e => by obtain ⟨r, _, rfl⟩ := List.mem_map.1 hx; cases e),
    fun r hr => ⟨(h.rows r hr).length, rowAt_keptB (h.rows r hr).row hp (fun x hx e => by obtain ⟨y, _, rfl⟩ := List.mem_map.1 hx; cases e)⟩⟩

/-- The reference's table, in memory. -/
structure NS (w : World) (ua : Option Addr) (uc n gb : Nat) (T : List Bool) (wr : World) : Prop where
  below : Below w.heap.size w wr
  unit : wr.heap[w.heap.size]? = some (.cells #[.slice ua n uc] 30 (0, 0))
  row : wr.ownsRow w.heap.size 4 1 (.slice (some ⟨gb, 0, none⟩) n n) n (T.map Value.bool)
  ne : gb ≠ w.heap.size
theorem NS.later {w : World} {ua : Option Addr} {uc n gb : Nat} {T : List Bool} {wr w' : World} (h : NS w ua uc n gb T wr) (hb : Below wr.heap.size wr w') : NS w ua uc n gb T w' :=
  ⟨h.below.trans (hb.mono h.below.size), (hb.block _ (Array.getElem?_eq_some_iff.1 h.unit).1).trans h.unit, ownsRow_below h.row hb, h.ne⟩
theorem NS.lo {w : World} {ua : Option Addr} {uc n gb : Nat} {T : List Bool} {wr : World} (h : NS w ua uc n gb T wr) : w.heap.size ≤ gb ∧ gb < wr.heap.size := h.row.lt gb rfl
theorem NS.cell {w : World} {ua : Option Addr} {uc n gb : Nat} {T : List Bool} {wr : World} (h : NS w ua uc n gb T wr) (hl : T.length = n) {m : Nat} (hm : m < n) : wr.cell? ⟨gb, m, none⟩ = some (.bool (T.getD m false)) := by
  rw [h.row.cellAt m (by omega), List.getElem?_map, List.getElem?_eq_getElem (by omega : m < T.length), List.getD_eq_getElem?_getD, List.getElem?_eq_getElem (by omega : m < T.length)]; rfl
theorem NS.set {w : World} {ua : Option Addr} {uc n gb : Nat} {T : List Bool} {wr : World} {z : Int} (h : NS w ua uc n gb T wr) : NS w ua uc n gb (setB T z) (wr.setCell ⟨gb, z.toNat, none⟩ (.bool true)) := by
  refine ⟨h.below.setCell h.lo.1 _, ?_, ?_, h.ne⟩
  · rw [heap_setCell_other _ _ _ _ (fun e => h.ne e.symm)]; exact h.unit
  · have h1 := (h.row.stored z.toNat (.bool true)).1
    rw [setB, List.map_set]
    exact h1
theorem needTo_yes {us : List CodeD} {N j : Nat} (h : (needTo us N j).getD (N - 1 - j) false = true) : needTo us N (j + 1) = (callees us (N - 1 - j)).foldl setB (needTo us N j) := by rw [needTo, if_pos h]
theorem needTo_no {us : List CodeD} {N j : Nat} (h : (needTo us N j).getD (N - 1 - j) false = false) : needTo us N (j + 1) = needTo us N j := by rw [needTo, if_neg (by rw [h]; simp)]
theorem setB_next {L : List Int} {T : List Bool} {m : Nat} {z : Int} (h : L[m]? = some z) : (L.take (m + 1)).foldl setB T = setB ((L.take m).foldl setB T) z := by rw [take_succ_of h, List.foldl_append]; rfl

set_option maxRecDepth 100000 in
set_option maxHeartbeats 4000000 in
theorem specCodesNeeded_any (us : List CodeD) (ua : Option Addr) (uc : Nat) (hsz : szS szCodeD us ≤ 1048576) (w : World) (hU : SliceRd 3 CodeR w ua us.length us) :
    Calls Tryz.prog 6 #[.agg #[.slice ua us.length uc]] w fun e w' => RetInts w (cnP us) (cnP us).length e w' := by
  obtain ⟨i0, hi, hz0, hz1, hz2⟩ := info_parts info_bool
  have HI := Lib.hid (And.intro hi (And.intro hz0 (And.intro hz1 hz2)))
  clear hi hz0 hz1 hz2
  have hb0 : Below w.heap.size w ((w.alloc (.cells #[.slice ua us.length uc] 30)).alloc (.cells #[] 3)) := ((Below.refl _ _).alloc (Nat.le_refl _) _).alloc (by simp) _
  have hrow : ((w.alloc (.cells #[.slice ua us.length uc] 30)).alloc (.cells #[] 3)).heap[w.heap.size]? = some (.cells #[.slice ua us.length uc] 30) := heap_alloc2_old w _ _
  have hc0 : ((w.alloc (.cells #[.slice ua us.length uc] 30)).alloc (.cells #[] 3)).cell? ⟨w.heap.size, 0, none⟩ = some (.slice ua us.length uc) := cell_of_row _ _ 0 _ _ _ hrow
  have hE : ((w.alloc (.cells #[.slice ua us.length uc] 30)).alloc (.cells #[] 3)).ownsRow w.heap.size 3 1 (.slice (some ⟨w.heap.size + 1, 0, none⟩) 0 0) 0 [] := by
    have h1 := own_empty (w.alloc (.cells #[.slice ua us.length uc] 30)) w.heap.size 3 1 (by simp)
    rwa [World.size_alloc] at h1
  have HC := Lib.hid (And.intro (specUnitValid_any us ua uc hsz _ (hU.later codeR_lasts hb0)) (And.intro hb0 (And.intro hU (And.intro hsz (And.intro hrow hE)))))
  have hn2 : us.length ≤ 1048576 := Nat.le_trans (szS_len szCodeD us) hsz
  clear hU hrow hsz hE
  go_enter Tryz.func6, Tryz.ntmps6
  go_wp2_with fail
  generalize (w.alloc (.cells #[.slice ua us.length uc] 30)).alloc (.cells #[] 3) = W0 at HC hc0 hb0 ⊢
  refine HC.out.1.mono ?_
  cases hv : unitB us with
  | false =>
    have HN := Lib.hid (show cnP us = [] by rw [cnP, hv]; rfl)
    clear hv
    rintro e w1 ⟨rfl, hb1⟩
    have HB := Lib.hid (And.intro (HC.out.2.1.trans (hb1.mono HC.out.2.1.size)) (ownsRow_below HC.out.2.2.2.2.2 hb1))
    clear hb1 hb0 hc0
    go_wp2
    go_ret
    rw [HN.out]
    exact ⟨_, _, rfl, HB.out.2, HB.out.1⟩
  | true =>
    have HV := Lib.hid hv
    have hNp : 0 < us.length := by
      have h1 := hv
      rw [unitB, Bool.and_eq_true, Bool.and_eq_true, limB, Bool.and_eq_true] at h1
      have := of_decide_eq_true h1.1.1.1
      omega
    clear hv
    rintro e w1 ⟨rfl, hb1⟩
    have hc1 := cell_later hb1 hc0
    have HB := Lib.hid (And.intro (HC.out.2.1.trans (hb1.mono HC.out.2.1.size)) ((hb1.block _ (Array.getElem?_eq_some_iff.1 HC.out.2.2.2.2.1).1).trans HC.out.2.2.2.2.1))
    have hs01 := HB.out.1.size
    have hlt01 := (Array.getElem?_eq_some_iff.1 HB.out.2).1
    clear hb1 hb0 hc0
    go_wp2_with (at_make; refine wpList_make_full _ rfl _ _ 41 rfl w.heap.size 4 i0 (.bool false) 1 und_bools HI.out.1 HI.out.2.1 HI.out.2.2.1 _ _ _ _ us.length rfl rfl rfl rfl (by rw [HI.out.2.2.2]; omega) (by unfold maxLen; omega) (by omega) ?_; intro w3 hown hg3; rw [made_bools] at hown; (have hb13 : Below w1.heap.size w1 w3 := (Below.refl _ _).grown hg3 (Nat.le_refl _) (by simp)); (have hc3 := cell_later hb13 hc1); (have hNI : ((us.length : Int) - 1).toNat = us.length - 1 := by omega); (have hct : w3.cell? ⟨w1.heap.size, us.length - 1, none⟩ = some (.bool false) := by rw [hown.cellAt (us.length - 1) (by omega), List.getElem?_map, List.getElem?_replicate, if_pos (by omega)]; rfl); (have hft := hown.frozenAt (us.length - 1)); (have HNS := Lib.hid (show NS w ua uc us.length w1.heap.size (needTo us us.length 0) (w3.setCell ⟨w1.heap.size, us.length - 1, none⟩ (.bool true)) from ⟨(HB.out.1.trans (hb13.mono HB.out.1.size)).setCell hs01 _, by rw [heap_setCell_other _ _ _ _ (fun e => by have e2 : w.heap.size = w1.heap.size := e; omega)]; exact (hb13.block _ hlt01).trans HB.out.2, by have h1 := (hown.stored (us.length - 1) (.bool true)).1; rw [needTo, List.map_set]; exact h1, by omega⟩)); clear hb13 hown hg3)
    have hc4 : (w3.setCell ⟨w1.heap.size, us.length - 1, none⟩ (.bool true)).cell? ⟨w.heap.size, 0, none⟩ = some (.slice ua us.length uc) := cell_of_row _ _ 0 _ _ _ HNS.out.unit
    go_wp2_with fail
    obtain ⟨gb, hgb⟩ : ∃ gb, gb = w1.heap.size := ⟨_, rfl⟩
    rw [← hgb] at HNS hc4 ⊢
    generalize w3.setCell ⟨gb, us.length - 1, none⟩ (.bool true) = W4 at HNS hc4 ⊢
    clear hct hft hc3 hgb hc1 hc4 hNI HB hs01 hlt01
    go_loopg [5] us.length (fun F i wr => ∃ j : Nat, j + F = us.length ∧ i = .int .i64 ((us.length : Int) - 1 - j) ∧ Hid (NS w ua uc us.length gb (needTo us us.length j) wr))
    case atStart => exact ⟨0, by omega, int_val (by omega), HNS⟩
    case round =>
      obtain ⟨j, hj, rfl, HK⟩ := hrel
      clear HNS
      by_cases hlt : j < us.length
      · obtain ⟨k, hk⟩ : ∃ k : Nat, k = us.length - 1 - j := ⟨_, rfl⟩
        have hki : ((us.length : Int) - 1 - (j : Int)) = (k : Int) := by omega
        rw [hki]
        have hkl : k < us.length := by omega
        have hkli : (k : Int) < (us.length : Int) := by omega
        have hk0 : (0 : Int) ≤ (k : Int) := by omega
        have hu0 : wr.cell? ⟨w.heap.size, 0, none⟩ = some (.slice ua us.length uc) := cell_of_row _ _ 0 _ _ _ HK.out.unit
        obtain ⟨c, hc⟩ : ∃ c, us[k]? = some c := ⟨_, List.getElem?_eq_getElem hkl⟩
        have HCP := Lib.hid (specCallPlaces_any us ua uc (k : Int) HC.out.2.2.2.1 wr (HC.out.2.2.1.later codeR_lasts HK.out.below))
        have HCE := Lib.hid (And.intro (callsP_of (hasB_true.2 ⟨HV.out, by omega, by omega⟩) hc) (And.intro hc (callees_of hc)))
        have hcl := callsP_small (k := (k : Int)) HC.out.2.2.2.1
        rw [HCE.out.1] at hcl HCP
        have HKE := Lib.hid hk
        clear hki hk
        go_wp2_with fail
        refine HCP.out.mono ?_
        rintro e w5 ⟨ra, rc, rows, rfl, hm5, hx5, hb5⟩
        have hrl : rows.length = (callsBl c.blocks c.blocks.length).length := by rw [← hx5, List.length_map]
        have HM := Lib.hid (And.intro hm5.at.toMatRd (And.intro hx5 (HK.out.later hb5)))
        have HTJ := Lib.hid (needTo_need HV.out hNp j (by omega))
        rw [← hrl]
        have hrs : rows.length ≤ 1048576 := by omega
        have HRL := Lib.hid hrl
        clear hm5 hx5 hb5 hu0 HCP HK hrl hcl
        go_wp2_with fail
        go_loopg [7] rows.length (fun F i wq => ∃ m : Nat, m + F = rows.length ∧ i = .int .i64 m ∧ Hid (NS w ua uc us.length gb (((callees us k).take m).foldl setB (needTo us us.length j)) wq ∧ MatRd wq ra rows.length rows ∧ ((needTo us us.length j).getD k false = true ∨ m = 0)))
        case atStart => exact ⟨0, by omega, rfl, Lib.hid ⟨HM.out.2.2, by rw [HRL.out]; exact HM.out.1, .inr rfl⟩⟩
        case round =>
          obtain ⟨m, hm, rfl, HQ⟩ := hrel
          by_cases hltm : m < rows.length
          · have hmi : (m : Int) < (rows.length : Int) := by omega
            have hTl : (((callees us k).take m).foldl setB (needTo us us.length j)).length = us.length := by rw [foldB_len, needTo_len]
            have hck := HQ.out.1.cell hTl hkl
            cases hT : (needTo us us.length j).getD k false with
            | false =>
              have hm0 : m = 0 := by
                rcases HQ.out.2.2 with h | h
                · rw [hT] at h; cases h
                · exact h
              subst hm0
              have hmi0 : (0 : Int) < (rows.length : Int) := by omega
              have hck2 : wr.cell? ⟨gb, k, none⟩ = some (.bool false) := by rw [← hT]; exact hck
              clear hck
              have HN := Lib.hid (show needTo us us.length (j + 1) = needTo us us.length j by rw [HKE.out] at hT; exact needTo_no hT)
              clear hT
              go_wp2
              go_roundg (us.length - (j + 1))
              case measure => omega
              case rel => exact ⟨j + 1, by omega, int_val (by have := HKE.out; omega), Lib.hid (by rw [HN.out]; exact HQ.out.1)⟩
            | true =>
              rw [(foldB_getD _ _).2 (.inl hT)] at hck
              obtain ⟨rb, ro, qa, qc, xs, rfl, hxr, hrc, hrd⟩ := HQ.out.2.1.place hltm
              have hpx : (callsBl c.blocks c.blocks.length)[m]? = some xs := by rw [← HM.out.2.1, List.getElem?_map, hxr]; rfl
              obtain ⟨b, i, x, y, rfl, hbx, hiy, hop⟩ := callsBl_mem _ (List.mem_of_getElem? hpx)
              have hback := call_back (unit_code HV.out HCE.out.2.1) hbx hiy hop
              obtain ⟨z, hz⟩ : ∃ z : Nat, y.num = (z : Int) := ⟨y.num.toNat, by omega⟩
              have hzk : z < k := by omega
              have hcz : (callees us k)[m]? = some (z : Int) := by rw [HCE.out.2.2, List.getElem?_map, hpx]; simp only [Option.map_some]; rw [numAt_of hbx hiy, hz]
              obtain ⟨e0b, e0o, e0x, e0a, e0h, hq0⟩ := hrd.place (i := 0) (by simp)
              obtain ⟨e1b, e1o, e1x, e1a, e1h, hq1⟩ := hrd.place (i := 1) (by simp)
              rw [e0a] at e1a
              cases e1a
              subst e0a
              simp only [List.getElem?_cons_zero, List.getElem?_cons_succ, Option.some.injEq] at e0h e1h
              subst e0h e1h
              rw [Nat.add_zero] at hq0
              have hub := HQ.out.1.below
              obtain ⟨cb, co, params, regs, blocks, ba, bc, rfl, hcx, d0, d1, d2, hCR⟩ := code_place (HC.out.2.2.1.later codeR_lasts hub) hkl
              rw [HCE.out.2.1] at hcx
              cases hcx
              obtain ⟨_, _, hcs, _, hrdb⟩ := hCR
              simp only [List.cons.injEq, Value.slice.injEq, and_true, true_and] at hcs
              obtain ⟨rfl, rfl⟩ := hcs
              have hrdb : SliceRd 5 BlockR wr ba blocks.length blocks := hrdb
              have hbx : blocks[b]? = some x := hbx
              have hbl : b < blocks.length := (List.getElem?_eq_some_iff.1 hbx).1
              obtain ⟨bb, bo, phis, ins, jump, jon, nx, pa, pc, ia, ic, na, nc, rfl, hx2, _, f1, _, _, _, hBR⟩ := block_place hrdb hbl
              rw [hbx] at hx2
              cases hx2
              obtain ⟨_, _, _, _, _, _, hbs, _, hins, _⟩ := hBR
              simp only [List.cons.injEq, Value.slice.injEq, and_true, true_and] at hbs
              obtain ⟨_, ⟨rfl, rfl⟩, _⟩ := hbs
              have hiy : ins[i]? = some y := hiy
              have hil : i < ins.length := (List.getElem?_eq_some_iff.1 hiy).1
              obtain ⟨ib, io, op, tr, args, num, aa, ac, rfl, hy2, _, _, _, g3, _⟩ := ins_place hins.2 hil
              rw [hiy] at hy2
              cases hy2
              have hz : num = (z : Int) := hz
              subst hz
              have hu0 : wr.cell? ⟨w.heap.size, 0, none⟩ = some (.slice (some ⟨cb, co, none⟩) us.length uc) := cell_of_row _ _ 0 _ _ _ HQ.out.1.unit
              have hbi : (b : Int) < (blocks.length : Int) := by omega
              have hii : (i : Int) < (ins.length : Int) := by omega
              have hzi : (z : Int) < (us.length : Int) := by omega
              have HN := Lib.hid (And.intro (setB_next (T := needTo us us.length j) hcz) hT)
              have HZ := Lib.hid hzk
              clear hpx hiy hop hback hcz hxr hrd hub hrdb hbx hins hT
              go_wp2_with fail
              go_still_tail 26, (by kernel_rfl)
              change wpList _ _ _ _ _ wr.drew
              have HD := Lib.hid (show Below wr.heap.size wr wr.drew from (Below.refl _ _).drew)
              clear hu0 d0 d1 d2 f1 g3 hq0 hq1 hrc hck
              generalize wr.drew = wd at HD ⊢
              have HQD := Lib.hid (And.intro (HQ.out.1.later HD.out) (HQ.out.2.1.later HD.out))
              have hcz := HQD.out.1.cell hTl (show z < us.length by have := HZ.out; omega)
              have hfz := HQD.out.1.row.frozenAt z
              have HN2 := Lib.hid (And.intro (HQD.out.1.set (z := (z : Int))) (mat_keptB (u := .bool true) HQD.out.2 hcz))
              clear hTl
              go_wp2
              go_roundg (gk - 1)
              case measure => omega
              case rel => exact ⟨m + 1, by omega, by go_num, Lib.hid ⟨by rw [HN.out.1]; exact HN2.out.1, HN2.out.2, .inl HN.out.2⟩⟩
          · obtain rfl : m = rows.length := by omega
            have HN : Hid (((callees us k).take rows.length).foldl setB (needTo us us.length j) = needTo us us.length (j + 1)) := Lib.hid (by
              have hlen : (callees us k).length = rows.length := by rw [HCE.out.2.2, List.length_map, HRL.out]
              rw [← hlen, List.take_length]
              rcases HQ.out.2.2 with h | h
              · rw [HKE.out] at h ⊢; exact (needTo_yes h).symm
              · have h0 : callees us k = [] := List.length_eq_zero_iff.1 (by omega)
                rw [h0]
                cases hT : (needTo us us.length j).getD k false with
                | true =>
                  have h1 : (needTo us us.length j).getD (us.length - 1 - j) false = true := by rw [← HKE.out]; exact hT
                  rw [needTo_yes h1, ← HKE.out, h0]
                | false =>
                  have h1 : (needTo us us.length j).getD (us.length - 1 - j) false = false := by rw [← HKE.out]; exact hT
                  rw [needTo_no h1]; rfl)
            go_wp2
            go_roundg (us.length - (j + 1))
            case measure => omega
            case rel => exact ⟨j + 1, by omega, int_val (by have := HKE.out; omega), Lib.hid (by rw [← HN.out]; exact HQ.out.1)⟩
      · obtain rfl : j = us.length := by omega
        have hneg : ¬ (0 : Int) ≤ (us.length : Int) - 1 - (us.length : Int) := by omega
        have hTl := needTo_len us us.length us.length
        have HB2 := Lib.hid (show BoolsRd wr (some ⟨gb, 0, none⟩) us.length (needTo us us.length us.length) from bools_of_own HK.out.row)
        have HL := Lib.hid (show Calls Tryz.prog 20 #[.slice (some ⟨gb, 0, none⟩) us.length us.length] wr (fun e w' => RetInts wr (cnP us) (cnP us).length e w') from by
          have h := l12List_any (some ⟨gb, 0, none⟩) us.length (needTo us us.length us.length) wr (by rw [hTl]; exact HB2.out) (by omega)
          rw [hTl] at h
          rw [show cnP us = filtTo (fun m => (needTo us us.length us.length).getD m false) us.length by rw [cnP, if_pos HV.out]]
          exact h)
        clear hTl
        go_wp2_with fail
        refine HL.out.mono ?_
        rintro e w6 ⟨a6, c6, rfl, hown6, hb6⟩
        have HO := Lib.hid (And.intro (own_lower hown6 (base' := w.heap.size) (fun k hk => Nat.le_trans HK.out.below.size (hown6.lt k hk).1)) (HK.out.below.trans (hb6.mono HK.out.below.size)))
        clear hown6 hb6
        go_wp2
        go_ret
        exact ⟨_, _, rfl, HO.out.1, HO.out.2⟩

end Go.Proofs.YtonlidgmfmgcmaaGreat
