
/-
  OrderIn, the reference's and the program's.
-/
import Derived.Test.YtkhnhdgbbjppeaaOrderIn2
namespace Go.Proofs.Ytkhnhdgbbjppeaa
open Go.RowKit

set_option maxRecDepth 100000 in
theorem implOrderIn_any (p r : Int) (ba : Option Addr) (bc : Nat) (g : List (List Int)) (w : World) (hg : Gr w ba g) :
    Calls Try.prog 92 #[.agg #[.int .i64 p, .int .i64 r, .slice ba g.length bc]] w fun e w' => RetInts w (orderP g) (orderP g).length e w' := by
  have hb0 := below_box w (.int .i64 p) (.int .i64 r) (.slice ba g.length bc)
  have HC := Lib.hid (heap_alloc_new w (.cells #[.int .i64 p, .int .i64 r, .slice ba g.length bc] 51))
  have hlen := hg.len
  go_enter Try.func92, Try.ntmps92
  go_wp2_with fail
  refine (graphOk_any p r ba bc g _ (hg.later hb0)).mono ?_
  rintro e w1 ⟨rfl, hb1⟩
  have hb01 := hb0.trans (hb1.mono hb0.size)
  have hC1 := (hb1.block w.heap.size (by simp)).trans HC.out
  have hk0 : w1.cell? ⟨w.heap.size, 0, none⟩ = some (.int .i64 p) := cell_of_row _ _ 0 _ _ _ hC1
  have hk1 : w1.cell? ⟨w.heap.size, 1, none⟩ = some (.int .i64 r) := cell_of_row _ _ 1 _ _ _ hC1
  have hk2 : w1.cell? ⟨w.heap.size, 2, none⟩ = some (.slice ba g.length bc) := cell_of_row _ _ 2 _ _ _ hC1
  clear hC1
  cases hf : fits g with
  | false =>
    have HP := Lib.hid (show orderP g = [] by rw [orderP, hf]; rfl)
    clear hf
    go_wp2
    go_ret
    rw [HP.out]
    exact ⟨none, 0, rfl, World.ownsRow_nil _ _ _ _, hb01⟩
  | true =>
    have HP := Lib.hid (show orderP g = (leftOf g).reverse by rw [orderP, hf]; rfl)
    have hF := fits_iff.1 hf
    clear hf
    go_wp2_with fail
    refine (visits_any g hF p r ba bc w1 (hg.later hb01)).mono ?_
    rintro e w2 ⟨oa, oc, rfl, hown, hb2⟩
    have hb02 := hb01.trans (hb2.mono hb01.size)
    have hll := leftOf_len g
    have hs1 := hb01.size
    have hown' := own_lower hown (base' := w.heap.size) (fun k hk => by have := (hown.lt k hk).1; omega)
    have HL := Lib.hid (fun k hk => (hown'.lt k hk).1)
    generalize leftOf g = L at hown hown' HP hll HL
    go_wp2_with fail
    refine (reverse_any w.heap.size oa oc L w2 hown' (by omega)).mono ?_
    rintro e w3 ⟨rfl, hown3, ht3⟩
    have HO := Lib.hid (And.intro hown3 (hb02.trans (ht3.below hb02.size HL.out)))
    clear hown hown' hown3 ht3
    go_wp2
    go_ret
    rw [HP.out, List.length_reverse]
    exact ⟨_, _, rfl, HO.out.1, HO.out.2⟩

end Go.Proofs.Ytkhnhdgbbjppeaa
