
/-
  The parts of an expression are visited by a closure, whatever it does; the names of an expression's variables.
-/
import Derived.Test.YtccfbnhlhjlmgaaDoorEp
import Derived.Test.YtccfbnhlhjlmgaaDoorPe2
import Derived.Test.YtccfbnhlhjlmgaaDoorEs3
import Derived.Deep.LoopGhost
namespace Go.Proofs.YtccfbnhlhjlmgaaDoor
open Go.RowKit
set_option linter.unusedVariables false

def visitD {σ : Type} (step : ExprD → σ → σ) : Nat → ExprD → σ → σ
  | 0, _, st => st
  | m + 1, x, st => x.kids.foldl (fun st k => visitD step m k st) (step x st)
/-- No block of expressions is touched. -/
def KeepE (w w' : World) : Prop := ∀ (k : Nat) (cs : Array Value), w.heap[k]? = some (Obj.cells cs 29 (0, 0)) → w'.heap[k]? = some (Obj.cells cs 29 (0, 0))
theorem KeepE.trans {a b c : World} (h : KeepE a b) (k : KeepE b c) : KeepE a c := fun i cs hi => k i cs (h i cs hi)
theorem KeepE.below {w w' : World} (hb : Below w.heap.size w w') : KeepE w w' := fun i cs hi => (hb.block i (Array.getElem?_eq_some_iff.1 hi).1).trans hi
/-- What a closure does to its state at each part. -/
structure VisitFn {σ : Type} (w0 : World) (f : Nat) (caps : Array Value) (I : World → σ → Prop) (step : ExprD → σ → σ) (bnd : σ → Nat) : Prop where
  enter : ∀ v W, (callFunc f (#[v] ++ caps)).run Tryd.prog W = .ok (.enter f (#[v] ++ caps)) W
  calls : ∀ (d : Nat) cs x w st, ExprAt d w0 cs x → Below w0.heap.size w0 w → I w st → bnd st ≤ 1000000 → Calls Tryd.prog f (#[.agg (List.toArray cs)] ++ caps) w fun e w' => e = .returned (.tuple #[]) ∧ I w' (step x st) ∧ Below w0.heap.size w w' ∧ KeepE w w'
  later : ∀ w w' st, I w st → Below w.heap.size w w' → I w' st
  grows : ∀ x st, bnd (step x st) ≤ bnd st + 1
theorem bnd_fold {σ : Type} {f : σ → ExprD → σ} {bnd : σ → Nat} {c : Nat} : ∀ (ks : List ExprD) (st : σ), (∀ k ∈ ks, ∀ st, bnd (f st k) ≤ bnd st + c) → bnd (ks.foldl f st) ≤ bnd st + ks.length * c
  | [], st, _ => by simp
  | k :: ks, st, h => by
    rw [List.foldl_cons, List.length_cons, Nat.add_mul]
    have h1 := bnd_fold ks (f st k) (fun k' hk => h k' (List.mem_cons_of_mem _ hk))
    have h2 := h k List.mem_cons_self st
    omega
theorem bnd_visit {σ : Type} {step : ExprD → σ → σ} {bnd : σ → Nat} (hg : ∀ x st, bnd (step x st) ≤ bnd st + 1) : ∀ (m : Nat) (x : ExprD) (st : σ), sizeD nameD m x ≠ none → bnd (visitD step m x st) ≤ bnd st + cap m
  | 0, _, _, h => absurd rfl h
  | m + 1, x, st, h => by
    obtain ⟨m', hm, hh, hk⟩ := size_parts h
    cases hm
    have h1 := bnd_fold (c := cap m) (f := fun st k => visitD step m k st) x.kids (step x st) (fun k hk' st => bnd_visit hg m k st (hk k hk'))
    have h2 := hg x st
    have h3 := head_kids hh
    have h4 := cap_succ m
    have h5 := cap_pos m
    have h6 : x.kids.length * cap m ≤ 3 * cap m := Nat.mul_le_mul_right _ h3
    show bnd (x.kids.foldl (fun st k => visitD step m k st) (step x st)) ≤ _
    omega

set_option maxRecDepth 100000 in
set_option maxHeartbeats 4000000 in
theorem parts_gen {σ : Type} (w0 : World) (f : Nat) (caps : Array Value) (I : World → σ → Prop) (step : ExprD → σ → σ) (bnd : σ → Nat) (hf : VisitFn w0 f caps I step bnd) : ∀ (m : Nat) (st : σ) (cs : List Value) (x : ExprD) (w : World), sizeD nameD m x ≠ none → ExprAt m w0 cs x → Below w0.heap.size w0 w → I w st → bnd st + cap m ≤ 1000000 →
    Calls Tryd.prog 64 #[.agg cs.toArray, .func (.func f) #[] caps] w fun e w' => e = .returned (.tuple #[]) ∧ I w' (visitD step m x st) ∧ Below w0.heap.size w w' ∧ KeepE w w' := by
  intro m
  induction m with
  | zero => exact fun _ _ _ _ h => absurd rfl h
  | succ m ih =>
  intro st cs x w hs hx hB hI hbd
  obtain ⟨m', hm, hh, hkv⟩ := size_parts hs
  cases hm
  have hx2 := hx
  obtain ⟨ka, kc, rfl, ⟨hkl, -⟩, hks⟩ := hx2
  have hkl2 : x.kids.length ≤ 9223372036854775807 := by unfold maxLen at hkl; omega
  have hba : Below w.heap.size w (w.alloc (.cells #[.int .i64 x.op, .int .i64 x.n, .string x.name, .slice ka x.kids.length kc] 29)) := (Below.refl _ _).alloc (Nat.le_refl _) _
  have hrow := heap_alloc_new w (.cells #[.int .i64 x.op, .int .i64 x.n, .string x.name, .slice ka x.kids.length kc] 29)
  have HBA := Lib.hid (And.intro hba hrow)
  have e0 := cell_of_row _ _ 0 _ _ _ hrow
  have e1 := cell_of_row _ _ 1 _ _ _ hrow
  have e2 := cell_of_row _ _ 2 _ _ _ hrow
  have e3 := cell_of_row _ _ 3 _ _ _ hrow
  simp only [List.getElem?_toArray, List.getElem?_cons_zero, List.getElem?_cons_succ] at e0 e1 e2 e3
  have hb1 := hB.trans (hba.mono hB.size)
  have HL := Lib.hid (hf.calls (m + 1) _ x _ st hx hb1 (hf.later _ _ _ hI hba) (by omega))
  have HK := Lib.hid (And.intro hks (And.intro hkv (And.intro (head_kids hh) (And.intro hB hbd))))
  have HF := Lib.hid hf
  have HIH := Lib.hid ih
  have hen := hf.enter
  clear hx hks hkv hh hB hI hbd hf ih hba hrow hb1 hkl hs
  go_enter Tryd.func64, Tryd.ntmps64
  go_wp2_with fail
  refine HL.out.mono ?_
  rintro e w2 ⟨rfl, hI2, hb2, hk2⟩
  obtain ⟨b, hb⟩ : ∃ b, b = w.heap.size := ⟨_, rfl⟩
  have H2 := Lib.hid (And.intro hI2 (show Below w0.heap.size w w2 ∧ Below w0.heap.size w0 w2 ∧ KeepE w w2 from ⟨(HBA.out.1.mono HK.out.2.2.2.1.size).trans hb2, HK.out.2.2.2.1.trans ((HBA.out.1.mono HK.out.2.2.2.1.size).trans hb2), (KeepE.below HBA.out.1).trans hk2⟩))
  have hrow2 := hk2 _ _ HBA.out.2
  rw [← hb] at hrow2 ⊢
  have g3 := cell_of_row _ _ 3 _ _ _ hrow2
  simp only [List.getElem?_toArray, List.getElem?_cons_zero, List.getElem?_cons_succ] at g3
  clear hI2 hb2 hk2 hrow2 hb e0 e1 e2 e3 hen HL
  go_wp2_with fail
  clear g3
  go_loopg [12] x.kids.length (fun G i wr => ∃ (j : Nat), j + G = x.kids.length ∧ i = .int .i64 j ∧ Hid (I wr ((x.kids.take j).foldl (fun st k => visitD step m k st) (step x st)) ∧ Below w0.heap.size w wr ∧ Below w0.heap.size w0 wr ∧ KeepE w wr))
  case atStart => exact ⟨0, by omega, rfl, Lib.hid ⟨H2.out.1, H2.out.2⟩⟩
  case round =>
    obtain ⟨j, hj, rfl, HR⟩ := hrel
    by_cases hlt : j < x.kids.length
    · obtain ⟨b1, o1, k, cs1, rfl, hk, hkR, k1, k2, rfl, c0, c1, c2, c3⟩ := kid_place HK.out.1 hlt
      have hki : (j : Int) < (x.kids.length : Int) := by omega
      have d0 := cell_later HR.out.2.2.1 c0
      have d1 := cell_later HR.out.2.2.1 c1
      have d2 := cell_later HR.out.2.2.1 c2
      have d3 := cell_later HR.out.2.2.1 c3
      have hba : Below wr.heap.size wr (wr.alloc (.cells #[.int .i64 k.op, .int .i64 k.n, .string k.name, .slice k1 k.kids.length k2] 29)) := (Below.refl _ _).alloc (Nat.le_refl _) _
      have hrow := heap_alloc_new wr (.cells #[.int .i64 k.op, .int .i64 k.n, .string k.name, .slice k1 k.kids.length k2] 29)
      have e0 := cell_of_row _ _ 0 _ _ _ hrow
      have e1 := cell_of_row _ _ 1 _ _ _ hrow
      have e2 := cell_of_row _ _ 2 _ _ _ hrow
      have e3 := cell_of_row _ _ 3 _ _ _ hrow
      simp only [List.getElem?_toArray, List.getElem?_cons_zero, List.getElem?_cons_succ] at e0 e1 e2 e3
      have hb3 := HR.out.2.2.1.trans (hba.mono HR.out.2.2.1.size)
      have hbound : bnd ((x.kids.take j).foldl (fun st k => visitD step m k st) (step x st)) + cap m ≤ 1000000 := by
        have h1 := bnd_fold (bnd := bnd) (c := cap m) (f := fun st k => visitD step m k st) (x.kids.take j) (step x st) (fun k hk' st => bnd_visit HF.out.grows m k st (HK.out.2.1 k (List.mem_of_mem_take hk')))
        have h2 := HF.out.grows x st
        have h3 := HK.out.2.2.1
        have h4 := cap_succ m
        have h5 := cap_pos m
        have h6 : (x.kids.take j).length * cap m ≤ 2 * cap m := Nat.mul_le_mul_right _ (by rw [List.length_take]; omega)
        have h7 := HK.out.2.2.2.2
        omega
      have HQ := Lib.hid (HIH.out _ _ k _ (HK.out.2.1 k (List.mem_of_getElem? hk)) hkR hb3 (HF.out.later _ _ _ HR.out.1 hba) hbound)
      have HT := Lib.hid (And.intro (And.intro (HR.out.2.1.trans (hba.mono (Nat.le_trans HR.out.2.2.1.size (Nat.le_refl _)))) (And.intro hb3 (HR.out.2.2.2.trans (KeepE.below hba)))) (show x.kids.take (j + 1) = x.kids.take j ++ [k] from take_succ_of hk))
      clear hba hrow hb3 hk hkR c0 c1 c2 c3 hbound
      go_wp2_with fail
      refine HQ.out.mono ?_
      rintro e w5 ⟨rfl, hI5, hb5, hk5⟩
      have HE := Lib.hid (And.intro hI5 (And.intro (HT.out.1.1.trans hb5) (And.intro (HT.out.1.2.1.trans hb5) (HT.out.1.2.2.trans hk5))))
      clear hI5 hb5 hk5 d0 d1 d2 d3 e0 e1 e2 e3
      go_wp2
      go_roundg (gk - 1)
      case measure => omega
      case rel => exact ⟨j + 1, by omega, by go_num, Lib.hid ⟨by rw [HT.out.2, List.foldl_append]; exact HE.out.1, HE.out.2⟩⟩
    · obtain rfl : j = x.kids.length := by omega
      have HFI := Lib.hid (show I wr (visitD step (m + 1) x st) by
        have := HR.out.1
        rw [List.take_length] at this
        exact this)
      go_wp2
      go_end0
      exact ⟨rfl, HFI.out, HR.out.2.1, HR.out.2.2.2⟩

end Go.Proofs.YtccfbnhlhjlmgaaDoor
