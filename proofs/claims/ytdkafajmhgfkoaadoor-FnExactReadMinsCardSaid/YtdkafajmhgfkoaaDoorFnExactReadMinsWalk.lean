
/-
  The walk of the law FnExactReadMins.
-/
import Derived.Test.YtdkafajmhgfkoaaDoorRmLaw
import Derived.Test.YtdkafajmhgfkoaaDoorMachEq
namespace Go.Proofs.YtdkafajmhgfkoaaDoor
open Go.RowKit

set_option maxRecDepth 100000 in
set_option maxHeartbeats 2000000 in
theorem fnExactReadMins_walk (s : ByteArray) (w : World) (hF : FormsNm w) :
    Calls Tryd.prog 7 #[.string s] w fun e w' => e = .returned (.bool true) ∧ Below w.heap.size w w' := by
  by_cases hbig : 1048576 < s.size
  · have hbi : (1048576 : Int) < (s.size : Int) := by omega
    go_enter Tryd.func7, Tryd.ntmps7
    go_wp2
    go_ret
    exact ⟨rfl, Below.refl _ _⟩
  · have hbi : ¬ (1048576 : Int) < (s.size : Int) := by omega
    have HF := Lib.hid hF
    have HSP := Lib.hid (fun W => specReadMins_any s W)
    rw [rm_same] at HSP
    have HIM := Lib.hid (fun W hW => implReadMins_any s W hW (by omega))
    obtain ⟨y0, y1, y2, y3, y4, hout⟩ := out_five (cutS s) (cutS_ne s)
    rw [hout] at HSP HIM
    have hb2 : ((rmI (cutS s)).isSome != (rmI (cutS s)).isSome) = false := by simp
    have hb1 : ((rmI (cutS s)).isSome == (rmI (cutS s)).isSome) = true := by simp
    generalize (rmI (cutS s)).isSome = ok at HSP HIM hb1 hb2
    clear hF hbig hout
    go_enter Tryd.func7, Tryd.ntmps7
    go_wp2_with fail
    refine (HSP.out w).mono ?_
    rintro e w1 ⟨rfl, hb01⟩
    have hba : Below w1.heap.size w1 (w1.alloc (.cells #[.int .i64 y0, .int .i64 y1, .int .i64 y2, .int .i64 y3, .int .i64 y4] 41)) := (Below.refl _ _).alloc (Nat.le_refl _) _
    have H2 := Lib.hid (And.intro (hb01.trans (hba.mono hb01.size)) (heap_alloc_new w1 (.cells #[.int .i64 y0, .int .i64 y1, .int .i64 y2, .int .i64 y3, .int .i64 y4] 41)))
    clear hba hb01
    go_wp2_with fail
    generalize w1.alloc (.cells #[.int .i64 y0, .int .i64 y1, .int .i64 y2, .int .i64 y3, .int .i64 y4] 41) = W2 at H2 ⊢
    obtain ⟨b2, hb2'⟩ : ∃ b, b = w1.heap.size := ⟨_, rfl⟩
    rw [← hb2'] at H2 ⊢
    clear hb2'
    refine (HIM.out W2 (HF.out.later H2.out.1)).mono ?_
    rintro e w3 ⟨rfl, hb23⟩
    have hba : Below w3.heap.size w3 (w3.alloc (.cells #[.int .i64 y0, .int .i64 y1, .int .i64 y2, .int .i64 y3, .int .i64 y4] 41)) := (Below.refl _ _).alloc (Nat.le_refl _) _
    have hb24 := hb23.trans (hba.mono hb23.size)
    have H4 := Lib.hid (And.intro (H2.out.1.trans (hb24.mono H2.out.1.size)) (And.intro ((hb24.block _ (Array.getElem?_eq_some_iff.1 H2.out.2).1).trans H2.out.2) (heap_alloc_new w3 (.cells #[.int .i64 y0, .int .i64 y1, .int .i64 y2, .int .i64 y3, .int .i64 y4] 41))))
    clear hba hb23 hb24
    go_upto_region 5 with fail
    generalize w3.alloc (.cells #[.int .i64 y0, .int .i64 y1, .int .i64 y2, .int .i64 y3, .int .i64 y4] 41) = W4 at H4 ⊢
    obtain ⟨b4, hb4'⟩ : ∃ b, b = w3.heap.size := ⟨_, rfl⟩
    rw [← hb4'] at H4 ⊢
    clear hb4'
    have r0 := cell_of_row _ _ 0 _ _ _ H4.out.2.1
    have r1 := cell_of_row _ _ 1 _ _ _ H4.out.2.1
    have r2 := cell_of_row _ _ 2 _ _ _ H4.out.2.1
    have r3 := cell_of_row _ _ 3 _ _ _ H4.out.2.1
    have r4 := cell_of_row _ _ 4 _ _ _ H4.out.2.1
    have e0 := cell_of_row _ _ 0 _ _ _ H4.out.2.2
    have e1 := cell_of_row _ _ 1 _ _ _ H4.out.2.2
    have e2 := cell_of_row _ _ 2 _ _ _ H4.out.2.2
    have e3 := cell_of_row _ _ 3 _ _ _ H4.out.2.2
    have e4 := cell_of_row _ _ 4 _ _ _ H4.out.2.2
    simp only [List.getElem?_toArray, List.getElem?_cons_zero, List.getElem?_cons_succ] at r0 r1 r2 r3 r4 e0 e1 e2 e3 e4
    go_wp2_with fail
    refine (eqMins_any [.int .i64 y0, .int .i64 y1, .int .i64 y2, .int .i64 y3, .int .i64 y4] [.int .i64 y0, .int .i64 y1, .int .i64 y2, .int .i64 y3, .int .i64 y4] ⟨y0, y1, y2, y3, y4⟩ W4 rfl rfl (by unfold szMinsD; omega)).mono ?_
    rintro e w5 ⟨rfl, hb45⟩
    have HE := Lib.hid (H4.out.1.trans (hb45.mono H4.out.1.size))
    clear hb45 r0 r1 r2 r3 r4 e0 e1 e2 e3 e4
    go_wp2
    go_ret
    exact ⟨rfl, HE.out⟩

end Go.Proofs.YtdkafajmhgfkoaaDoor
