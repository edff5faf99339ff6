
/-
  HasSharp: the answers.
-/
import Derived.Test.YtkhnhdgbbjppeaaSharp
namespace Go.Proofs.Ytkhnhdgbbjppeaa
open Go.RowKit

theorem all_take {g : List (List Int)} {q : List Int → Bool} {b : Nat} {l : List Int} (h : ∀ x ∈ g.take b, q x = false) (hl : g[b]? = some l) (hq : q l = false) : ∀ x ∈ g.take (b + 1), q x = false := by
  intro x hx
  rw [take_succ_of hl] at hx
  rcases List.mem_append.1 hx with h1 | h1
  · exact h x h1
  · simp at h1; subst h1; exact hq
theorem all_take1 {l : List Int} {q : Int → Bool} {b : Nat} {y : Int} (h : ∀ x ∈ l.take b, q x = false) (hl : l[b]? = some y) (hq : q y = false) : ∀ x ∈ l.take (b + 1), q x = false := by
  intro x hx
  rw [take_succ_of hl] at hx
  rcases List.mem_append.1 hx with h1 | h1
  · exact h x h1
  · simp at h1; subst h1; exact hq
theorem sharpAt_false {g : List (List Int)} {l : List Int} (h : ∀ x ∈ l, (twoL l && manyB g x) = false) : sharpAt g l = false := by
  unfold sharpAt
  cases h2 : twoL l with
  | false => rfl
  | true =>
    rw [Bool.true_and, List.any_eq_false]
    intro x hx
    have := h x hx
    rw [h2] at this
    simpa using this
theorem sharpAt_true {g : List (List Int)} {l : List Int} {x : Int} (hx : x ∈ l) (h : (twoL l && manyB g x) = true) : sharpAt g l = true := by
  rw [Bool.and_eq_true] at h
  rw [sharpAt, h.1, Bool.true_and, List.any_eq_true]
  exact ⟨x, hx, h.2⟩
theorem sharpP_true {g : List (List Int)} {l : List Int} (hf : fits g = true) (hl : l ∈ g) (h : sharpAt g l = true) : sharpP g = true := by
  rw [sharpP, hf, Bool.true_and, List.any_eq_true]
  exact ⟨l, hl, h⟩
theorem sharpP_false {g : List (List Int)} (h : ∀ l ∈ g, sharpAt g l = false) : sharpP g = false := by
  unfold sharpP
  have : g.any (sharpAt g) = false := by rw [List.any_eq_false]; intro l hl; rw [h l hl]; simp
  rw [this, Bool.and_false]

set_option maxRecDepth 100000 in
set_option maxHeartbeats 2000000 in
theorem specHasSharp_any (p r : Int) (ba : Option Addr) (bc : Nat) (g : List (List Int)) (w : World) (hg : Gr w ba g) :
    Calls Try.prog 34 #[.agg #[.int .i64 p, .int .i64 r, .slice ba g.length bc]] w fun e w' => e = .returned (.bool (sharpP g)) ∧ Below w.heap.size w w' := by
  have hb0 := below_box w (.int .i64 p) (.int .i64 r) (.slice ba g.length bc)
  have HC := Lib.hid (heap_alloc_new w (.cells #[.int .i64 p, .int .i64 r, .slice ba g.length bc] 51))
  have hlen := hg.len
  go_enter Try.func34, Try.ntmps34
  go_wp2_with fail
  generalize w.alloc (.cells #[.int .i64 p, .int .i64 r, .slice ba g.length bc] 51) = W0 at HC hb0 ⊢
  go_loopg [3] g.length (fun F i wr => ∃ b : Nat, b + F = g.length ∧ i = .int .i64 b ∧ Hid (∀ l ∈ g.take b, sharpAt g l = false) ∧ Below W0.heap.size W0 wr)
  case atStart => exact ⟨0, by omega, rfl, Lib.hid (by simp), Below.refl _ _⟩
  case round =>
    obtain ⟨b, hb, rfl, HN, hbr⟩ := hrel
    have hblk := (hbr.block w.heap.size (Array.getElem?_eq_some_iff.1 HC.out).1).trans HC.out
    have k0 : wr.cell? ⟨w.heap.size, 0, none⟩ = some (.int .i64 p) := cell_of_row _ _ 0 _ _ _ hblk
    have k1 : wr.cell? ⟨w.heap.size, 1, none⟩ = some (.int .i64 r) := cell_of_row _ _ 1 _ _ _ hblk
    have k2 : wr.cell? ⟨w.heap.size, 2, none⟩ = some (.slice ba g.length bc) := cell_of_row _ _ 2 _ _ _ hblk
    have HBR := Lib.hid (hb0.trans (hbr.mono hb0.size))
    clear hblk
    by_cases hlt : b < g.length
    · have hbi : (b : Int) < (g.length : Int) := by omega
      cases hf : fits g with
      | false =>
        have HP := Lib.hid (show sharpP g = false by rw [sharpP, hf]; rfl)
        go_wp2_with fail
        refine (l10Fits_any p r ba bc g _ (hg.later HBR.out)).mono ?_
        rw [hf]
        rintro e w1 ⟨rfl, hb1⟩
        have HB1 := Lib.hid (HBR.out.trans (hb1.mono HBR.out.size))
        clear hb1
        go_wp2
        go_ret
        exact ⟨ret_bool HP.out.symm, HB1.out⟩
      | true =>
        have HF := Lib.hid hf
        obtain ⟨b1, o1, l, na, nc, rfl, hl, c4, hrd⟩ := hg.place hlt
        have hll := hg.row hl
        have HL := Lib.hid (And.intro hl (And.intro c4 hrd))
        clear hl c4 hrd hf
        go_wp2_with fail
        refine (l10Fits_any p r _ bc g _ (hg.later HBR.out)).mono ?_
        rw [HF.out]
        rintro e w1 ⟨rfl, hb1⟩
        have HB1 := Lib.hid (hbr.trans (hb1.mono hbr.size))
        clear hb1 k0 k1 k2 hbr HBR
        go_wp2_with fail
        go_loopg [4] l.length (fun F i wr => ∃ j : Nat, j + F = l.length ∧ i = .int .i64 j ∧ Hid (∀ x ∈ l.take j, (twoL l && manyB g x) = false) ∧ Below W0.heap.size W0 wr)
        case atStart => exact ⟨0, by omega, rfl, Lib.hid (by simp), HB1.out⟩
        case round =>
          obtain ⟨j, hj, rfl, HM, hbr⟩ := hrel
          have hblk := (hbr.block w.heap.size (Array.getElem?_eq_some_iff.1 HC.out).1).trans HC.out
          have k0 : wr.cell? ⟨w.heap.size, 0, none⟩ = some (.int .i64 p) := cell_of_row _ _ 0 _ _ _ hblk
          have k1 : wr.cell? ⟨w.heap.size, 1, none⟩ = some (.int .i64 r) := cell_of_row _ _ 1 _ _ _ hblk
          have k2 : wr.cell? ⟨w.heap.size, 2, none⟩ = some (.slice (some ⟨b1, o1, none⟩) g.length bc) := cell_of_row _ _ 2 _ _ _ hblk
          have HBR := Lib.hid (hb0.trans (hbr.mono hb0.size))
          have d4 := cell_later HBR.out HL.out.2.1
          clear hblk
          by_cases hlt2 : j < l.length
          · obtain ⟨b3, o3, x, hab, hx, _⟩ := HL.out.2.2.place hlt2
            have HX := Lib.hid hx
            have hji : (j : Int) < (l.length : Int) := by omega
            clear hx hab
            cases hv : (twoL l && manyB g x) with
            | false =>
              have HV := Lib.hid hv
              go_wp2_with fail
              refine (l10Sharp_any p r _ bc g b j l x HL.out.1 HX.out wr (hg.later HBR.out)).mono ?_
              rw [HV.out]
              rintro e w2 ⟨rfl, hb2⟩
              have HB2 := Lib.hid (hbr.trans (hb2.mono hbr.size))
              clear hb2 hv
              go_wp2
              go_roundg (gk - 1)
              case measure => omega
              case rel => exact ⟨j + 1, by omega, by go_num, Lib.hid (all_take1 HM.out HX.out HV.out), HB2.out⟩
            | true =>
              have HV := Lib.hid hv
              go_wp2_with fail
              refine (l10Sharp_any p r _ bc g b j l x HL.out.1 HX.out wr (hg.later HBR.out)).mono ?_
              rw [HV.out]
              rintro e w2 ⟨rfl, hb2⟩
              have HB2 := Lib.hid (HBR.out.trans (hb2.mono HBR.out.size))
              clear hb2 hv
              go_wp2
              go_ret
              exact ⟨ret_bool (sharpP_true HF.out (List.mem_of_getElem? HL.out.1) (sharpAt_true (List.mem_of_getElem? HX.out) HV.out)).symm, HB2.out⟩
          · obtain rfl : j = l.length := by omega
            have HA := Lib.hid (sharpAt_false (g := g) (l := l) (by have h := HM.out; rw [List.take_length] at h; exact h))
            go_wp2
            go_roundg (g.length - (b + 1))
            case measure => omega
            case rel => exact ⟨b + 1, by omega, by go_num, Lib.hid (all_take HN.out HL.out.1 HA.out), hbr⟩
    · obtain rfl : b = g.length := by omega
      have HP := Lib.hid (sharpP_false (g := g) (by have h := HN.out; rw [List.take_length] at h; exact h))
      go_wp2
      go_ret
      exact ⟨ret_bool HP.out.symm, HBR.out⟩

/-! ### the program -/
set_option maxRecDepth 100000 in
set_option maxHeartbeats 2000000 in
theorem sharpNext_any (p r : Int) (ba : Option Addr) (bc : Nat) (g : List (List Int)) (hf : Fits g) (b : Nat) (l : List Int) (hb : g[b]? = some l) (w : World) (hg : Gr w ba g) :
    Calls Try.prog 73 #[.agg #[.int .i64 p, .int .i64 r, .slice ba g.length bc], .int .i64 (b : Int)] w fun e w' => RetInts w (sharpL g l) (sharpL g l).length e w' := by
  have hb0 := below_box w (.int .i64 p) (.int .i64 r) (.slice ba g.length bc)
  have HC := Lib.hid (heap_alloc_new w (.cells #[.int .i64 p, .int .i64 r, .slice ba g.length bc] 51))
  have hlen := hg.len
  have hbn : b < g.length := (List.getElem?_eq_some_iff.1 hb).1
  obtain ⟨b1, o1, l2, na, nc, rfl, hl2, c4, hrd, hnil⟩ := hg.place2 hbn
  obtain rfl : l2 = l := by rw [hb] at hl2; exact (Option.some.inj hl2).symm
  have hll := hg.row hb
  have hk2 : (w.alloc (.cells #[.int .i64 p, .int .i64 r, .slice (some ⟨b1, o1, none⟩) g.length bc] 51)).cell? ⟨w.heap.size, 2, none⟩ = some (.slice (some ⟨b1, o1, none⟩) g.length bc) := cell_of_row _ _ 2 _ _ _ HC.out
  have d4 := cell_later hb0 c4
  have hrd0 := hrd.later hb0
  have hbi : (b : Int) < (g.length : Int) := by omega
  have HX := Lib.hid (And.intro hg (And.intro hb0 hnil))
  have HRD := Lib.hid hrd
  have HOK := Lib.hid (fun x (hx : x ∈ l2) => okN_iff.2 (hf.inn b l2 hb x hx))
  have h2L := two_of_len (l := l2)
  have hsl := sortU_len l2
  clear hb hl2 c4 hrd hnil
  go_enter Try.func73, Try.ntmps73
  go_wp2_with fail
  generalize w.alloc (.cells #[.int .i64 p, .int .i64 r, .slice (some ⟨b1, o1, none⟩) g.length bc] 51) = W0 at HC HX hk2 d4 hrd0 hb0 ⊢
  clear hk2 d4
  refine (once_any na nc l2 W0 hrd0 HX.out.2.2 (by omega)).mono ?_
  have HSL := Lib.hid (show sharpL g l2 = if (sortU l2).length < 2 then [] else l2.foldl (shStep g) [] from rfl)
  generalize sortU l2 = S at HSL hsl
  rintro e w1 ⟨a1, c1, rfl, hown1, hb1⟩
  have HB1 := Lib.hid (HX.out.2.1.trans (hb1.mono HX.out.2.1.size))
  have HR1 := Lib.hid hb1
  clear hown1 hb1 h2L
  generalize S.length = n at HSL hsl
  by_cases h2 : n < 2
  · have d1 : decide ((n : Int) < 2) = true := decide_eq_true (by omega)
    have hi1 : (n : Int) < 2 := by omega
    have HP := Lib.hid (show sharpL g l2 = [] by rw [HSL.out, if_pos h2])
    go_wp2
    go_ret
    rw [HP.out]
    exact ⟨none, 0, rfl, World.ownsRow_nil _ _ _ _, HB1.out⟩
  · have d1 : decide ((n : Int) < 2) = false := decide_eq_false (by omega)
    have hi1 : ¬ (n : Int) < 2 := by omega
    have HP := Lib.hid (show sharpL g l2 = l2.foldl (shStep g) [] by rw [HSL.out, if_neg h2])
    go_wp2_with fail
    go_loopg [6, 21] l2.length (fun F o i wr => ∃ k : Nat, k + F = l2.length ∧ i = .int .i64 k ∧ ∃ oa on oc, o = .slice oa on oc ∧ Hid (GathC #[.int .i64 p, .int .i64 r, .slice (some ⟨b1, o1, none⟩) g.length bc] w ((l2.take k).foldl (shStep g) []) oa on oc wr))
    case atStart => exact ⟨0, by omega, rfl, _, _, _, rfl, Lib.hid ⟨⟨World.ownsRow_nil _ _ _ _, HB1.out⟩, (HR1.out.block w.heap.size (Array.getElem?_eq_some_iff.1 HC.out).1).trans HC.out⟩⟩
    case round =>
      obtain ⟨k, hk, rfl, oa, on, oc, rfl, HG⟩ := hrel
      have hblk := HG.out.cblk
      have k0 : wr.cell? ⟨w.heap.size, 0, none⟩ = some (.int .i64 p) := cell_of_row _ _ 0 _ _ _ hblk
      have k1 : wr.cell? ⟨w.heap.size, 1, none⟩ = some (.int .i64 r) := cell_of_row _ _ 1 _ _ _ hblk
      have k2 : wr.cell? ⟨w.heap.size, 2, none⟩ = some (.slice (some ⟨b1, o1, none⟩) g.length bc) := cell_of_row _ _ 2 _ _ _ hblk
      clear hblk
      by_cases hlt : k < l2.length
      · obtain ⟨b3, o3, x, hna, hx, hcx⟩ := (HRD.out.later HG.out.g.below).place hlt
        subst hna
        have HT := Lib.hid (show (l2.take (k + 1)).foldl (shStep g) [] = shStep g ((l2.take k).foldl (shStep g) []) x by rw [take_succ_of hx, List.foldl_append]; rfl)
        have HM := Lib.hid (List.mem_of_getElem? hx)
        have hol := shFold_len g (l2.take k) []
        simp only [List.length_nil, List.length_take] at hol
        have hon := HG.out.g.len
        have hon2 : on ≤ 1048576 := by omega
        clear hx hol hon
        generalize (l2.take k).foldl (shStep g) [] = ys at HT HG ⊢
        go_wp2_with fail
        refine (predsOf_any p r _ bc g x (HOK.out x HM.out) wr (hg.later HG.out.g.below)).mono ?_
        obtain ⟨pl, hpl⟩ : ∃ pl, pl = (preds g x).length := ⟨_, rfl⟩
        have HMB := Lib.hid (show manyB g x = decide (1 < pl) by rw [manyB, hpl])
        have hpl2 := preds_len g x
        rw [← hpl] at hpl2 ⊢
        clear hpl
        rintro e w2 ⟨a2, c2, rfl, hown2, hb2⟩
        have HG2 := Lib.hid (HG.out.later hb2)
        have hsz2 := HG2.out.g.below.size
        clear hown2 hb2 k0 k1 k2 hcx
        by_cases h1 : 1 < pl
        · have d2 : decide ((1 : Int) < (pl : Int)) = true := decide_eq_true (by omega)
          have hi2 : (1 : Int) < (pl : Int) := by omega
          cases hv : decide (x ∈ ys) with
          | true =>
            have HV := Lib.hid hv
            have HS := Lib.hid (show shStep g ys x = ys by rw [shStep, hv]; simp)
            go_wp2_with fail
            refine (contains_any oa on oc ys x w2 (ints_of_own HG2.out.g.row).toIntsRd (by omega)).mono ?_
            rw [HV.out]
            rintro e w3 ⟨rfl, rfl⟩
            go_wp2
            go_roundg (gk - 1)
            case measure => omega
            case rel => exact ⟨k + 1, by omega, by go_num, _, _, _, rfl, Lib.hid (by rw [HT.out, HS.out]; exact HG2.out)⟩
          | false =>
            have HV := Lib.hid hv
            have HS := Lib.hid (show shStep g ys x = ys ++ [x] by rw [shStep, hv, HMB.out, decide_eq_true h1]; rfl)
            go_wp2_with fail
            refine (contains_any oa on oc ys x w2 (ints_of_own HG2.out.g.row).toIntsRd (by omega)).mono ?_
            rw [HV.out]
            rintro e w3 ⟨rfl, rfl⟩
            go_wp2_with (at_builtin; refine app_ints rfl (.tmp 36) (.tmp 38) rfl w.heap.size _ on _ rfl (HG2.out.g.row.alloc _) _ 1 _ [x] rfl rfl (rowAt_one _ _ _) (by rintro ⟨⟩) (by omega) (by simp; omega) ?_; intro a5 c5 w5 hown5 hg5 hlies5)
            have HN2 := Lib.hid (HG2.out.push hown5 hg5)
            clear hown5 hg5 hlies5
            go_roundg (gk - 1)
            case measure => omega
            case rel => exact ⟨k + 1, by omega, by go_num, a5, _, c5, rfl, Lib.hid (by rw [HT.out, HS.out]; exact HN2.out)⟩
        · have d2 : decide ((1 : Int) < (pl : Int)) = false := decide_eq_false (by omega)
          have hi2 : ¬ (1 : Int) < (pl : Int) := by omega
          have HS := Lib.hid (show shStep g ys x = ys by rw [shStep, HMB.out, decide_eq_false h1]; simp)
          go_wp2
          go_roundg (gk - 1)
          case measure => omega
          case rel => exact ⟨k + 1, by omega, by go_num, _, _, _, rfl, Lib.hid (by rw [HT.out, HS.out]; exact HG2.out)⟩
      · obtain rfl : k = l2.length := by omega
        go_wp2
        go_ret
        rw [HP.out]
        have h := HG.out.g.ret
        rw [List.take_length] at h
        exact h

set_option maxRecDepth 100000 in
set_option maxHeartbeats 2000000 in
theorem implHasSharp_any (p r : Int) (ba : Option Addr) (bc : Nat) (g : List (List Int)) (w : World) (hg : Gr w ba g) :
    Calls Try.prog 36 #[.agg #[.int .i64 p, .int .i64 r, .slice ba g.length bc]] w fun e w' => e = .returned (.bool (sharpP g)) ∧ Below w.heap.size w w' := by
  have hb0 := below_box w (.int .i64 p) (.int .i64 r) (.slice ba g.length bc)
  have HC := Lib.hid (heap_alloc_new w (.cells #[.int .i64 p, .int .i64 r, .slice ba g.length bc] 51))
  have hlen := hg.len
  go_enter Try.func36, Try.ntmps36
  go_wp2_with fail
  generalize w.alloc (.cells #[.int .i64 p, .int .i64 r, .slice ba g.length bc] 51) = W0 at HC hb0 ⊢
  refine (graphOk_any p r ba bc g _ (hg.later hb0)).mono ?_
  cases hf : fits g with
  | false =>
    have HP := Lib.hid (show sharpP g = false by rw [sharpP, hf]; rfl)
    clear hf
    rintro e w1 ⟨rfl, hb1⟩
    have HB1 := Lib.hid (hb0.trans (hb1.mono hb0.size))
    clear hb1
    go_wp2
    go_ret
    exact ⟨ret_bool HP.out.symm, HB1.out⟩
  | true =>
    have HF := Lib.hid hf
    rintro e wr ⟨rfl, hb1⟩
    have HB1 := Lib.hid (And.intro (hb0.trans (hb1.mono hb0.size)) ((hb1.block w.heap.size (Array.getElem?_eq_some_iff.1 HC.out).1).trans HC.out))
    have hblk := HB1.out.2
    have k0 : wr.cell? ⟨w.heap.size, 0, none⟩ = some (.int .i64 p) := cell_of_row _ _ 0 _ _ _ hblk
    have k1 : wr.cell? ⟨w.heap.size, 1, none⟩ = some (.int .i64 r) := cell_of_row _ _ 1 _ _ _ hblk
    have k2 : wr.cell? ⟨w.heap.size, 2, none⟩ = some (.slice ba g.length bc) := cell_of_row _ _ 2 _ _ _ hblk
    clear hf hblk hb1
    go_wp2_with fail
    clear k0 k1 k2
    obtain ⟨wa, hwa⟩ : ∃ wa, wa = wr := ⟨_, rfl⟩
    subst hwa
    go_loopg [10] g.length (fun F i wr => ∃ b : Nat, b + F = g.length ∧ i = .int .i64 b ∧ Hid (∀ l ∈ g.take b, sharpAt g l = false) ∧ Below wa.heap.size wa wr)
    case atStart => exact ⟨0, by omega, rfl, Lib.hid (by simp), Below.refl _ _⟩
    case round =>
      obtain ⟨b, hb, rfl, HN, hbr⟩ := hrel
      have HBR := Lib.hid (HB1.out.1.trans (hbr.mono HB1.out.1.size))
      have hblk := (hbr.block w.heap.size (Array.getElem?_eq_some_iff.1 HB1.out.2).1).trans HB1.out.2
      have k0 : wr.cell? ⟨w.heap.size, 0, none⟩ = some (.int .i64 p) := cell_of_row _ _ 0 _ _ _ hblk
      have k1 : wr.cell? ⟨w.heap.size, 1, none⟩ = some (.int .i64 r) := cell_of_row _ _ 1 _ _ _ hblk
      have k2 : wr.cell? ⟨w.heap.size, 2, none⟩ = some (.slice ba g.length bc) := cell_of_row _ _ 2 _ _ _ hblk
      clear hblk
      by_cases hlt : b < g.length
      · have hl : g[b]? = some (g[b]'hlt) := List.getElem?_eq_getElem _
        obtain ⟨l, hll⟩ : ∃ l, l = g[b]'hlt := ⟨_, rfl⟩
        rw [← hll] at hl
        have HL := Lib.hid hl
        have HSP := Lib.hid (sharpL_pos g l)
        clear hl hll
        go_wp2_with fail
        refine (sharpNext_any p r ba bc g (fits_iff.1 HF.out) b l HL.out wr (hg.later HBR.out)).mono ?_
        generalize (sharpL g l).length = n at HSP ⊢
        rintro e w2 ⟨a2, c2, rfl, hown2, hb2⟩
        have HB2 := Lib.hid (And.intro (hbr.trans (hb2.mono hbr.size)) (HBR.out.trans (hb2.mono HBR.out.size)))
        clear hown2 hb2 k0 k1 k2
        by_cases hz : n = 0
        · subst hz
          have HV := Lib.hid (show sharpAt g l = false from HSP.out.symm)
          go_wp2
          go_roundg (gk - 1)
          case measure => omega
          case rel => exact ⟨b + 1, by omega, by go_num, Lib.hid (all_take HN.out HL.out HV.out), HB2.out.1⟩
        · have hpn : 0 < n := by omega
          have hpi : (0 : Int) < (n : Int) := by omega
          have hpd : decide ((0 : Int) < (n : Int)) = true := decide_eq_true hpi
          have HV := Lib.hid (show sharpAt g l = true by rw [← HSP.out]; exact decide_eq_true hpn)
          go_wp2
          go_ret
          exact ⟨ret_bool (sharpP_true HF.out (List.mem_of_getElem? HL.out) HV.out).symm, HB2.out.2⟩
      · obtain rfl : b = g.length := by omega
        have HP := Lib.hid (sharpP_false (g := g) (by have h := HN.out; rw [List.take_length] at h; exact h))
        go_wp2
        go_ret
        exact ⟨ret_bool HP.out.symm, HBR.out⟩

end Go.Proofs.Ytkhnhdgbbjppeaa
