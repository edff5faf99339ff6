
/-
  ReachedIn, the reference's and the program's.
-/
import Derived.Test.YtkhnhdgbbjppeaaOrderIn3
import Derived.Test.YtkhnhdgbbjppeaaSort
namespace Go.Proofs.Ytkhnhdgbbjppeaa
open Go.RowKit

def reachedP (g : List (List Int)) : List Int := if fits g then sortU (leftOf g) else []
theorem reachedP_le {w : World} {ba : Option Addr} {g : List (List Int)} (h : Gr w ba g) : (reachedP g).length ≤ 1048576 := by
  have h1 := h.len
  unfold reachedP
  split
  · have := sortU_len (leftOf g)
    have := leftOf_len g
    omega
  · simp
theorem sortU_rev (xs : List Int) : sortU xs.reverse = sortU xs := asc_ext (sortU_asc _) (sortU_asc _) (fun z => by rw [sortU_mem, sortU_mem, List.mem_reverse])

set_option maxRecDepth 100000 in
theorem l10Sorted_any (a : Option Addr) (cap : Nat) (xs : List Int) (w : World) (hin : IntsRd w a xs.length xs) (hs : xs.length ≤ 1048576) :
    Calls Try.prog 81 #[.slice a xs.length cap] w fun e w' => RdInts w (sortU xs) e w' := by
  have HE := Lib.hid (show IntsAt (w.alloc (.cells #[] 3)) (some ⟨w.heap.size, 0, none⟩) 0 0 [] from ints_of_own (xs := []) (own_empty w w.heap.size 3 1 (Nat.le_refl _)))
  have hb0 : Below w.heap.size w (w.alloc (.cells #[] 3)) := (Below.refl _ _).alloc (Nat.le_refl _) _
  have HB0 := Lib.hid hb0
  clear hb0
  go_enter Try.func81, Try.ntmps81
  go_wp2
  go_loopg [3, 4] xs.length (fun F o i wr => ∃ k : Nat, k + F = xs.length ∧ i = .int .i64 k ∧ ∃ oa oc, o = .slice oa ((xs.take k).foldl ins []).length oc ∧ Hid (IntsAt wr oa ((xs.take k).foldl ins []).length oc ((xs.take k).foldl ins []) ∧ Below w.heap.size w wr))
  case atStart => exact ⟨0, by omega, rfl, _, _, rfl, Lib.hid ⟨HE.out, HB0.out⟩⟩
  case round =>
    obtain ⟨k, hk, rfl, oa, oc, rfl, HK⟩ := hrel
    clear HE HB0
    by_cases hlt : k < xs.length
    · obtain ⟨b, off, x, rfl, hx, hc⟩ := (hin.later HK.out.2).place hlt
      have HT := Lib.hid (show (xs.take (k + 1)).foldl ins [] = ins ((xs.take k).foldl ins []) x by rw [take_succ_of hx, List.foldl_append]; rfl)
      have hll : ((xs.take k).foldl ins []).length ≤ 1048576 := by rw [foldl_ins]; have := sortU_len (xs.take k); simp at this; omega
      clear hx
      generalize (xs.take k).foldl ins [] = ys at HT HK hll ⊢
      go_wp2_with fail
      refine (insert_any oa _ oc ys x wr HK.out.1 (by omega)).mono ?_
      rintro e w2 ⟨a2, c2, rfl, hat2, hb2⟩
      have HN := Lib.hid (And.intro hat2 (HK.out.2.trans (hb2.mono HK.out.2.size)))
      clear hat2 hb2
      go_wp2
      go_roundg (gk - 1)
      case measure => omega
      case rel => exact ⟨k + 1, by omega, by go_num, a2, c2, by rw [HT.out], Lib.hid (by rw [HT.out]; exact HN.out)⟩
    · obtain rfl : k = xs.length := by omega
      have HE := Lib.hid (show (xs.take xs.length).foldl ins [] = sortU xs by rw [List.take_length, foldl_ins])
      rw [HE.out] at HK ⊢
      go_wp2
      go_ret
      exact ⟨_, _, rfl, HK.out.1.toIntsRd, HK.out.2⟩

set_option maxRecDepth 100000 in
theorem specReachedIn_any (p r : Int) (ba : Option Addr) (bc : Nat) (g : List (List Int)) (w : World) (hg : Gr w ba g) :
    Calls Try.prog 40 #[.agg #[.int .i64 p, .int .i64 r, .slice ba g.length bc]] w fun e w' => RdInts w (reachedP g) e w' := by
  have hb0 := below_box w (.int .i64 p) (.int .i64 r) (.slice ba g.length bc)
  have HC := Lib.hid (heap_alloc_new w (.cells #[.int .i64 p, .int .i64 r, .slice ba g.length bc] 51))
  have hlen := hg.len
  go_enter Try.func40, Try.ntmps40
  go_wp2_with fail
  refine (l10Fits_any p r ba bc g _ (hg.later hb0)).mono ?_
  rintro e w1 ⟨rfl, hb1⟩
  have hb01 := hb0.trans (hb1.mono hb0.size)
  have hC1 := (hb1.block w.heap.size (by simp)).trans HC.out
  have hk0 : w1.cell? ⟨w.heap.size, 0, none⟩ = some (.int .i64 p) := cell_of_row _ _ 0 _ _ _ hC1
  have hk1 : w1.cell? ⟨w.heap.size, 1, none⟩ = some (.int .i64 r) := cell_of_row _ _ 1 _ _ _ hC1
  have hk2 : w1.cell? ⟨w.heap.size, 2, none⟩ = some (.slice ba g.length bc) := cell_of_row _ _ 2 _ _ _ hC1
  clear hC1
  cases hf : fits g with
  | false =>
    have HP := Lib.hid (show reachedP g = [] by rw [reachedP, hf]; rfl)
    clear hf
    have hs := hb01.size
    go_wp2
    go_ret
    rw [HP.out]
    exact ⟨_, _, rfl, (ints_of_own (xs := []) (own_empty w1 w.heap.size 3 1 hs)).toIntsRd, hb01.alloc hs _⟩
  | true =>
    have HP := Lib.hid (show reachedP g = sortU (leftOf g).reverse by rw [reachedP, hf, sortU_rev]; rfl)
    have hF := fits_iff.1 hf
    clear hf
    go_wp2_with fail
    refine (l10Order_any g hF p r ba bc w1 (hg.later hb01)).mono ?_
    rintro e w2 ⟨oa, oc, rfl, hown, hb2⟩
    have hll := leftOf_len g
    have hll2 : (leftOf g).reverse.length ≤ 1048576 := by simp; omega
    have HO := Lib.hid (And.intro (ints_of_own hown).toIntsRd (hb01.trans (hb2.mono hb01.size)))
    clear hown hb2 hll
    generalize (leftOf g).reverse = L at HO HP hll2
    go_wp2_with fail
    refine (l10Sorted_any oa oc L w2 HO.out.1 hll2).mono ?_
    rintro e w3 ⟨a3, c3, rfl, hrd3, hb3⟩
    have HN := Lib.hid (And.intro hrd3 (HO.out.2.trans (hb3.mono HO.out.2.size)))
    clear hrd3 hb3
    go_wp2
    go_ret
    rw [HP.out]
    exact ⟨_, _, rfl, HN.out.1, HN.out.2⟩

set_option maxRecDepth 100000 in
theorem implReachedIn_any (p r : Int) (ba : Option Addr) (bc : Nat) (g : List (List Int)) (w : World) (hg : Gr w ba g) :
    Calls Try.prog 41 #[.agg #[.int .i64 p, .int .i64 r, .slice ba g.length bc]] w fun e w' => RetInts w (reachedP g) (reachedP g).length e w' := by
  have hb0 := below_box w (.int .i64 p) (.int .i64 r) (.slice ba g.length bc)
  have HC := Lib.hid (heap_alloc_new w (.cells #[.int .i64 p, .int .i64 r, .slice ba g.length bc] 51))
  have hlen := hg.len
  go_enter Try.func41, Try.ntmps41
  go_wp2_with fail
  refine (graphOk_any p r ba bc g _ (hg.later hb0)).mono ?_
  rintro e w1 ⟨rfl, hb1⟩
  have hb01 := hb0.trans (hb1.mono hb0.size)
  have hC1 := (hb1.block w.heap.size (by simp)).trans HC.out
  have hk0 : w1.cell? ⟨w.heap.size, 0, none⟩ = some (.int .i64 p) := cell_of_row _ _ 0 _ _ _ hC1
  have hk1 : w1.cell? ⟨w.heap.size, 1, none⟩ = some (.int .i64 r) := cell_of_row _ _ 1 _ _ _ hC1
  have hk2 : w1.cell? ⟨w.heap.size, 2, none⟩ = some (.slice ba g.length bc) := cell_of_row _ _ 2 _ _ _ hC1
  clear hC1
  cases hf : fits g with
  | false =>
    have HP := Lib.hid (show reachedP g = [] by rw [reachedP, hf]; rfl)
    clear hf
    go_wp2
    go_ret
    rw [HP.out]
    exact ⟨none, 0, rfl, World.ownsRow_nil _ _ _ _, hb01⟩
  | true =>
    have HP := Lib.hid (show reachedP g = sortU (leftOf g) by rw [reachedP, hf]; rfl)
    have hF := fits_iff.1 hf
    clear hf
    go_wp2_with fail
    refine (visits_any g hF p r ba bc w1 (hg.later hb01)).mono ?_
    rintro e w2 ⟨oa, oc, rfl, hown, hb2⟩
    have hll := leftOf_len g
    have HO := Lib.hid (And.intro hown (hb01.trans (hb2.mono hb01.size)))
    clear hown hb2
    generalize leftOf g = L at HO HP hll
    go_wp2_with fail
    refine (once_any oa oc L w2 (ints_of_own HO.out.1).toIntsRd (fun h => by subst h; exact own_nil HO.out.1) (by omega)).mono ?_
    rintro e w3 ⟨a3, c3, rfl, hown3, hb3⟩
    have HN := Lib.hid (And.intro (own_lower hown3 (base' := w.heap.size) (fun k hk => Nat.le_trans HO.out.2.size (hown3.lt k hk).1)) (HO.out.2.trans (hb3.mono HO.out.2.size)))
    clear hown3 hb3
    go_wp2
    go_ret
    rw [HP.out]
    exact ⟨_, _, rfl, HN.out.1, HN.out.2⟩

end Go.Proofs.Ytkhnhdgbbjppeaa
