
/-
  Folding (the program's): a number, the test of a number, a part that is folded.
-/
import Derived.Test.YtccfbnhlhjlmgaaDoorSv2
import Derived.Test.YtccfbnhlhjlmgaaDoorEx5
import Derived.Deep.RegionHeld3
import Derived.Deep.DeepCutAuto
namespace Go.Proofs.YtccfbnhlhjlmgaaDoor
open Go.RowKit
set_option linter.unusedVariables false

set_option maxHeartbeats 1000000 in
theorem numExpr_any (n : Int) (w : World) : Calls Tryd.prog 151 #[.int .i64 n] w fun e w' => e = .returned (.agg #[.int .i64 1, .int .i64 n, .string ⟨#[]⟩, .slice none 0 0]) ∧ Below w.heap.size w w' := by
  have hr := heap_alloc_new w (.cells #[.int .i64 0, .int .i64 0, .string ⟨#[]⟩, .slice none 0 0] 29)
  have HB := Lib.hid (And.intro (show Below w.heap.size w (w.alloc (.cells #[.int .i64 0, .int .i64 0, .string ⟨#[]⟩, .slice none 0 0] 29)) from (Below.refl _ _).alloc (Nat.le_refl _) _) hr)
  clear hr
  go_enter Tryd.func151, Tryd.ntmps151
  go_upto_region 1 with fail
  generalize w.alloc (.cells #[.int .i64 0, .int .i64 0, .string ⟨#[]⟩, .slice none 0 0] 29) = W1 at HB ⊢
  have z0 := cell_of_row _ _ 0 _ _ _ HB.out.2
  have z1 := cell_of_row _ _ 1 _ _ _ HB.out.2
  have z2 := cell_of_row _ _ 2 _ _ _ HB.out.2
  have z3 := cell_of_row _ _ 3 _ _ _ HB.out.2
  simp only [List.getElem?_toArray, List.getElem?_cons_zero, List.getElem?_cons_succ] at z0 z1 z2 z3
  have f0 := frozen_of_row _ _ 0 _ _ HB.out.2
  have f1 := frozen_of_row _ _ 1 _ _ HB.out.2
  have f2 := frozen_of_row _ _ 2 _ _ HB.out.2
  have f3 := frozen_of_row _ _ 3 _ _ HB.out.2
  go_wp2
  have ht := turned_setCells (g := w.heap.size) [.int .i64 1, .int .i64 n, .string ⟨#[]⟩, .slice none 0 0] W1 0
  have hres : (W1.setCells w.heap.size 0 [.int .i64 1, .int .i64 n, .string ⟨#[]⟩, .slice none 0 0]).heap[w.heap.size]? = some (.cells #[.int .i64 1, .int .i64 n, .string ⟨#[]⟩, .slice none 0 0] 29 (0, 0)) := by
    have := heap_setCells_mid (A := []) (B := [.int .i64 0, .int .i64 0, .string ⟨#[]⟩, .slice none 0 0]) (C := []) (vs := [.int .i64 1, .int .i64 n, .string ⟨#[]⟩, .slice none 0 0]) (o := 0) rfl rfl HB.out.2
    simpa using this
  have hb9 := HB.out.1.trans (ht.below (B := w.heap.size) HB.out.1.size (fun k hk => by omega))
  rw [setCells4'] at hres hb9
  refine bodyPost_ret (results_cell_row rfl _ _ w.heap.size 29 #[.int .i64 1, .int .i64 n, .string ⟨#[]⟩, .slice none 0 0] (0, 0) _ rfl ?_ Tryd.underlying29 rfl (by kernel_rfl)) rfl ?_
  · exact hres
  exact ⟨rfl, hb9⟩

set_option maxHeartbeats 1000000 in
theorem isNum_any (op n : Int) (s : ByteArray) (v : Value) (k : Int) (w : World) (b : Bool) (hb : b = (op == 1 && n == k)) : Calls Tryd.prog 152 #[.agg #[.int .i64 op, .int .i64 n, .string s, v], .int .i64 k] w fun e w' => e = .returned (.bool b) ∧ Below w.heap.size w w' := by
  have hrow := heap_alloc_new w (.cells #[.int .i64 op, .int .i64 n, .string s, v] 29)
  have HB := Lib.hid (And.intro (show Below w.heap.size w (w.alloc (.cells #[.int .i64 op, .int .i64 n, .string s, v] 29)) from (Below.refl _ _).alloc (Nat.le_refl _) _) hb)
  clear hb
  go_enter Tryd.func152, Tryd.ntmps152
  go_upto_region 1 with fail
  generalize w.alloc (.cells #[.int .i64 op, .int .i64 n, .string s, v] 29) = W1 at HB hrow ⊢
  have e0 := cell_of_row _ _ 0 _ _ _ hrow
  have e1 := cell_of_row _ _ 1 _ _ _ hrow
  simp only [List.getElem?_toArray, List.getElem?_cons_zero, List.getElem?_cons_succ] at e0 e1
  clear hrow
  by_cases h1 : op = 1
  · subst h1
    have HR := Lib.hid (show (n == k) = b by rw [HB.out.2]; simp)
    go_wp2
    go_ret
    exact ⟨ret_bool HR.out, HB.out.1⟩
  · have h2 : (op == 1) = false := by simpa using h1
    have HR := Lib.hid (show false = b by rw [HB.out.2, h2]; rfl)
    clear h1
    go_wp2
    go_ret
    exact ⟨ret_bool HR.out, HB.out.1⟩

end Go.Proofs.YtccfbnhlhjlmgaaDoor
