/-
  What DrawStepsOf and DrawTraceOf give.
-/
import Derived.Test.YtajnldkempeheaaDg10
import Derived.Test.YtajnldkempeheaaCopyBlk

namespace Go.Proofs.Ytajnldkempeheaa
open Go.RowKit
set_option linter.unusedVariables false
set_option linter.unusedSimpArgs false

theorem copyBlkC : CopyBlkC := fun cs x w h1 h2 => l7CopyBlock_any cs x w h1 h2
theorem DrewK.later {w W W' : World} {us : List CodeD} {ua : Option Addr} {uc : Nat} {inp : List Int} {ia : Option Addr} {ic : Nat} (h : DrewK w W us ua uc inp ia ic) (hb : Below W.heap.size W W') : DrewK w W' us ua uc inp ia ic :=
  ⟨h.u.below codeK_sets hb, h.sz, ownsRow_below h.own hb, h.new, h.il, h.below.trans (hb.mono h.below.size)⟩
set_option maxRecDepth 100000 in
set_option maxHeartbeats 4000000 in
theorem drawTrace_any : DrawTraceC := by
  intro w a len cap bs hin hcap
  have hb0 : Below w.heap.size w (w.alloc (.cells #[.slice none 0 0] 25)) := (Below.refl _ _).alloc (Nat.le_refl _) _
  have HB := Lib.hid (And.intro hb0 (And.intro (hin.later hb0) (World.size_alloc w (.cells #[.slice none 0 0] 25))))
  have hr0 := heap_alloc_new w (.cells #[.slice none 0 0] 25)
  clear hb0 hin
  go_enter Try.func5, Try.ntmps5
  go_upto_region 1 with fail
  obtain ⟨rb, hrb⟩ : ∃ b, b = w.heap.size := ⟨_, rfl⟩
  rw [← hrb] at hr0 ⊢
  generalize w.alloc (.cells #[.slice none 0 0] 25) = W1 at HB hr0 ⊢
  have HRB := Lib.hid (show (w.heap.size ≤ rb ∧ rb < W1.heap.size) ∧ W1.heap[rb]? = some (.cells #[.slice none 0 0] 25 (0, 0)) from ⟨by have := HB.out.2.2; omega, hr0⟩)
  clear hrb hr0
  have HD := Lib.hid (drawRun_any copyBlkC W1 a len cap bs HB.out.2.1 hcap)
  clear hcap
  go_wp2_with fail
  refine HD.out.mono ?_
  rintro e w2 ⟨us, ua, uc, inp, ia, ic, st, rfl, hD⟩
  have HK := Lib.hid hD
  have hr2 := (hD.below.block rb HRB.out.1.2).trans HRB.out.2
  have HR2 := Lib.hid hr2
  have r0 := cell_of_row _ _ 0 _ _ _ hr2
  have y0 := frozen_of_row _ _ 0 _ _ hr2
  simp only [List.getElem?_toArray, List.getElem?_cons_zero] at r0
  clear hD hr2 HD
  go_wp2
  refine bodyPost_ret (results_cellR2 rfl _ _ rb 25 #[.slice ua us.length uc] (0, 0) _ rfl ?_ Try.underlying25 rfl (by kernel_rfl)) rfl ?_
  · exact (heap_setCell_same w2 rb 0 _ _ _ HR2.out).trans rfl
  · exact ⟨us, ua, uc, inp, ia, ic, st, rfl, HK.out.put HB.out.1 HRB.out.1⟩
set_option maxRecDepth 100000 in
set_option maxHeartbeats 4000000 in
theorem drawSteps_any : DrawStepsC := by
  intro w a len cap bs hin hcap
  have hb0 : Below w.heap.size w (w.alloc (.cells #[.slice none 0 0] 25)) := (Below.refl _ _).alloc (Nat.le_refl _) _
  have HB := Lib.hid (And.intro hb0 (And.intro (hin.later hb0) (World.size_alloc w (.cells #[.slice none 0 0] 25))))
  have hr0 := heap_alloc_new w (.cells #[.slice none 0 0] 25)
  clear hb0 hin
  go_enter Try.func10, Try.ntmps10
  go_upto_region 1 with fail
  obtain ⟨rb, hrb⟩ : ∃ b, b = w.heap.size := ⟨_, rfl⟩
  rw [← hrb] at hr0 ⊢
  generalize w.alloc (.cells #[.slice none 0 0] 25) = W1 at HB hr0 ⊢
  have HRB := Lib.hid (show (w.heap.size ≤ rb ∧ rb < W1.heap.size) ∧ W1.heap[rb]? = some (.cells #[.slice none 0 0] 25 (0, 0)) from ⟨by have := HB.out.2.2; omega, hr0⟩)
  clear hrb hr0
  have HD := Lib.hid (drawRun_any copyBlkC W1 a len cap bs HB.out.2.1 hcap)
  clear hcap
  go_wp2_with fail
  refine HD.out.mono ?_
  rintro e w2 ⟨us, ua, uc, inp, ia, ic, st, rfl, hD⟩
  have hba : Below w2.heap.size w2 (w2.alloc (.cells #[.slice ua us.length uc] 25)) := (Below.refl _ _).alloc (Nat.le_refl _) _
  have HK := Lib.hid (hD.later hba)
  have hu2 := heap_alloc_new w2 (.cells #[.slice ua us.length uc] 25)
  have hr2 := ((hD.later hba).below.block rb HRB.out.1.2).trans HRB.out.2
  have HR2 := Lib.hid hr2
  clear hD HD hba
  go_upto_region 2 with fail
  obtain ⟨ub, hub⟩ : ∃ b, b = w2.heap.size := ⟨_, rfl⟩
  rw [← hub] at hu2 ⊢
  generalize w2.alloc (.cells #[.slice ua us.length uc] 25) = w3 at HK hr2 HR2 hu2 ⊢
  clear hub
  have u0 := cell_of_row _ _ 0 _ _ _ hu2
  have r0 := cell_of_row _ _ 0 _ _ _ hr2
  have y0 := frozen_of_row _ _ 0 _ _ hr2
  simp only [List.getElem?_toArray, List.getElem?_cons_zero] at r0 u0
  clear hr2 hu2
  go_wp2
  refine bodyPost_ret (results_cellR1 rfl _ _ rb 25 #[.slice ua us.length uc] (0, 0) _ rfl ?_ Try.underlying25 rfl (by kernel_rfl)) rfl ?_
  · exact (heap_setCell_same w3 rb 0 _ _ _ HR2.out).trans rfl
  · exact ⟨us, ua, uc, inp, ia, ic, rfl, HK.out.put HB.out.1 HRB.out.1⟩

end Go.Proofs.Ytajnldkempeheaa
