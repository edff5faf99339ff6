
/-
  The reference draws an argument of MachValid and of MachSize.
-/
import Derived.Test.YtdkafajmhgfkoaaDoorMd6
import Derived.Test.YtdkafajmhgfkoaaDoorNumbers
import Derived.Test.YtdkafajmhgfkoaaDoorMv
namespace Go.Proofs.YtdkafajmhgfkoaaDoor
open Go.RowKit

/-- A machine was drawn, one in four bent. -/
def MachGot (w : World) (e : Ending) (w' : World) : Prop :=
  ∃ a c fs, e = .returned (.agg #[.slice a fs.length c]) ∧ (1 ≤ fs.length ∧ fs.length ≤ 3) ∧ (szS szMfnD fs ≤ 1000 ∧ (∃ g, a = some ⟨g, 0, none⟩) ∧ fs.length ≤ c) ∧ SliceRd 3 MfnR w' a fs.length fs ∧ Below w.heap.size w w'
theorem bent_got {w w1 w2 : World} {e : Ending} {W1 : World} {cs : Array Value} {t : TypeId} (h1 : Below w.heap.size w W1) (hr : W1.heap[w.heap.size]? = some (.cells cs t (0, 0))) (h2 : Below W1.heap.size W1 w1) (h : BentDrawn w1 W1.heap.size e w2) :
    ∃ a c n, e = .returned (.agg #[.slice a n c]) ∧ w2.heap[w.heap.size]? = some (.cells cs t (0, 0)) ∧ MachGot w e (w2.setCell ⟨w.heap.size, 0, none⟩ (.slice a n c)) := by
  obtain ⟨am, nm, cm, fs, rfl, hF, hn1, hn3, ht⟩ := h
  have hlt : w.heap.size < W1.heap.size := (Array.getElem?_eq_some_iff.1 hr).1
  have hs1 := h1.size
  have hs2 := h2.size
  have hts := turned_store w2 w.heap.size 0 (.slice am nm cm)
  have hF3 := hF.far hts (fun k hk => .inl (by omega))
  have hrow : w2.heap[w.heap.size]? = some (.cells cs t (0, 0)) := ht.keeps ((h2.block _ hlt).trans hr) (by omega)
  obtain ⟨ds, rfl, h5, h3, -, -⟩ := hF3.rd hn3
  obtain ⟨g, _, h6, -⟩ := hF3.place (k := 0) (by omega)
  refine ⟨am, cm, _, rfl, hrow, am, cm, ds, rfl, ⟨hn1, hn3⟩, ⟨h5, ⟨g, h6⟩, (own_cap hF3.own).1⟩, h3, h1.trans ((h2.mono hs1).trans ?_)⟩
  have hb : Below w.heap.size w1 w2 := ⟨ht.os, ht.tape, ht.output, ht.size, fun k hk => ht.block k (by omega) (by omega)⟩
  exact hb.trans ⟨hts.os, hts.tape, hts.output, hts.size, fun k hk => hts.block k (by have := hb.size; omega) (by omega)⟩

/-- The first functions of a machine that is one are one. -/
theorem allK_le (p : Nat → Bool) : ∀ {m n : Nat}, m ≤ n → allK p n = true → allK p m = true := by
  intro m n hmn h
  induction n with
  | zero => obtain rfl : m = 0 := by omega
            exact h
  | succ n ih =>
    by_cases he : m = n + 1
    · subst he; exact h
    · refine ih (by omega) ?_
      rw [allK, Bool.and_eq_true] at h
      exact h.1
theorem allK_congr (p q : Nat → Bool) : ∀ {n : Nat}, (∀ k, k < n → p k = q k) → allK p n = allK q n := by
  intro n h
  induction n with
  | zero => rfl
  | succ n ih => rw [allK, allK, ih (fun k hk => h k (by omega)), h n (by omega)]
theorem machV_take {fs : List MfnD} (h : machV fs = true) {n : Nat} (h1 : 1 ≤ n) (hn : n ≤ fs.length) : machV (fs.take n) = true := by
  rw [machV, Bool.and_eq_true, Bool.and_eq_true] at h ⊢
  obtain ⟨h2, h3, h4⟩ := h
  simp only [inR, Bool.and_eq_true, decide_eq_true_eq] at h2 h4 ⊢
  have hl : (fs.take n).length = n := by rw [List.length_take]; omega
  rw [hl]
  refine ⟨by omega, ?_, ?_⟩
  · rw [allK_congr _ (fnV fs) (fun k hk => by simp only [fnV, List.getElem?_take_of_lt hk])]
    exact allK_le _ hn h3
  · have := sumOf_take insN fs n
    omega

set_option maxHeartbeats 1000000 in
theorem drawMachValid_any (w : World) (a : Option Addr) (len cap : Nat) (bs : List Int) (hin : BytesRd w a len bs) (hcap : len ≤ cap) :
    Calls Tryd.prog 8 #[.slice a len cap] w fun e w' => MachGot w e w' := by
  have hb0 : Below w.heap.size w (w.alloc (.cells #[.slice none 0 0] 25)) := (Below.refl _ _).alloc (Nat.le_refl _) _
  have hA := heap_alloc_new w (.cells #[.slice none 0 0] 25)
  have hin1 := hin.later hb0
  have H0 := Lib.hid (And.intro hb0 hA)
  clear hb0 hA hin
  go_enter Tryd.func8, Tryd.ntmps8
  go_wp2_with fail
  generalize w.alloc (.cells #[.slice none 0 0] 25) = W1 at H0 hin1 ⊢
  refine (open_any W1 a len cap bs hin1 hcap).mono ?_
  rintro e w1 ⟨a1, len1, cap1, bs1, rfl, hrd1, hlen1, hsz1⟩
  clear hin1
  have HW := Lib.hid hrd1.below
  go_wp2_with fail
  refine (l22Bent_any W1 w1 W1.heap.size a1 len1 cap1 bs1 hrd1 hlen1).mono ?_
  intro e w2 h2
  obtain ⟨a2, c2, n2, rfl, hrow, hG⟩ := bent_got H0.out.1 H0.out.2 HW.out h2
  clear h2 hrd1
  have r0 := cell_of_row _ _ 0 _ _ _ hrow
  have z0 := frozen_of_row _ _ 0 _ _ hrow
  have HR := Lib.hid (show (w2.setCell ⟨w.heap.size, 0, none⟩ (.slice a2 n2 c2)).heap[w.heap.size]? = some (.cells #[.slice a2 n2 c2] 25 (0, 0)) by
    rw [heap_setCell_same w2 w.heap.size 0 _ _ _ hrow]; rfl)
  have HE := Lib.hid hG
  clear hG hrow
  go_wp2
  refine bodyPost_ret (results_cell_row rfl _ _ w.heap.size 25 _ (0, 0) _ rfl HR.out Tryd.underlying25 rfl (by kernel_rfl)) rfl ?_
  exact HE.out

set_option maxHeartbeats 1000000 in
theorem drawMachSize_any (w : World) (a : Option Addr) (len cap : Nat) (bs : List Int) (hin : BytesRd w a len bs) (hcap : len ≤ cap) :
    Calls Tryd.prog 13 #[.slice a len cap] w fun e w' => MachGot w e w' := by
  have hb0 : Below w.heap.size w (w.alloc (.cells #[.slice none 0 0] 25)) := (Below.refl _ _).alloc (Nat.le_refl _) _
  have hA := heap_alloc_new w (.cells #[.slice none 0 0] 25)
  have hin1 := hin.later hb0
  have H0 := Lib.hid (And.intro hb0 hA)
  clear hb0 hA hin
  go_enter Tryd.func13, Tryd.ntmps13
  go_wp2_with fail
  generalize w.alloc (.cells #[.slice none 0 0] 25) = W1 at H0 hin1 ⊢
  refine (open_any W1 a len cap bs hin1 hcap).mono ?_
  rintro e w1 ⟨a1, len1, cap1, bs1, rfl, hrd1, hlen1, hsz1⟩
  clear hin1
  have HW := Lib.hid hrd1.below
  go_wp2_with fail
  refine (l22Bent_any W1 w1 W1.heap.size a1 len1 cap1 bs1 hrd1 hlen1).mono ?_
  intro e w2 h2
  obtain ⟨a2, c2, n2, rfl, hrow, hG⟩ := bent_got H0.out.1 H0.out.2 HW.out h2
  clear h2 hrd1
  have r0 := cell_of_row _ _ 0 _ _ _ hrow
  have z0 := frozen_of_row _ _ 0 _ _ hrow
  have HR := Lib.hid (show (w2.setCell ⟨w.heap.size, 0, none⟩ (.slice a2 n2 c2)).heap[w.heap.size]? = some (.cells #[.slice a2 n2 c2] 25 (0, 0)) by
    rw [heap_setCell_same w2 w.heap.size 0 _ _ _ hrow]; rfl)
  have HE := Lib.hid hG
  clear hG hrow
  go_wp2
  refine bodyPost_ret (results_cell_row rfl _ _ w.heap.size 25 _ (0, 0) _ rfl HR.out Tryd.underlying25 rfl (by kernel_rfl)) rfl ?_
  exact HE.out

end Go.Proofs.YtdkafajmhgfkoaaDoor
