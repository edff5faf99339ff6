
/-
  The reference draws a machine (l22Mach).
-/
import Derived.Test.YtdkafajmhgfkoaaDoorMd2
import Derived.Deep.RegionLaw
import Derived.Deep.RegionHeld3
namespace Go.Proofs.YtdkafajmhgfkoaaDoor
open Go.RowKit

/-- While a machine is drawn: the reader, the result's box, the machine's, its functions. -/
structure MachA (w0 w : World) (br : Nat) (a : Option Addr) (len cap : Nat) (bs : List Int) (am : Option Addr) (nm cm : Nat) (fs : List FnH) (p : Nat) (wr : World) : Prop where
  rd : Rd w0 wr br a len cap bs p
  turned : TurnBr br w wr
  lt : br < w.heap.size
  res : wr.heap[w.heap.size]? = some (.cells #[.slice none 0 0] 25 (0, 0))
  mbox : wr.heap[w.heap.size + 1]? = some (.cells #[.slice am nm cm] 25 (0, 0))
  fns : FnsOwn wr w.heap.size am nm cm fs
/-- The same, with a function that is being drawn. -/
structure MachB (w0 w : World) (br : Nat) (a : Option Addr) (len cap : Nat) (bs : List Int) (am : Option Addr) (nm cm : Nat) (fs : List FnH) (bf : Nat) (params slots : Int) (ia : Option Addr) (n c : Nat) (p : Nat) (wr : World) : Prop where
  A : MachA w0 w br a len cap bs am nm cm fs p wr
  fbox : wr.heap[bf]? = some (.cells #[.int .i64 params, .int .i64 slots, .slice ia n c] 32 (0, 0))
  ins : InsOwn wr w.heap.size ia n c
  far : ∀ k, (Value.slice am nm cm).ownBlock = some k → k ≠ bf
  bfar : w.heap.size + 1 < bf
  sep : ∀ f ∈ fs, ∀ k, (Value.slice f.a f.n f.c).ownBlock = some k → ¬ (Value.slice ia n c).ownBlock = some k
section
variable {w0 w wr w' : World} {br : Nat} {a : Option Addr} {len cap : Nat} {bs : List Int} {am : Option Addr} {nm cm : Nat} {fs : List FnH} {bf : Nat} {params slots : Int} {ia : Option Addr} {n c p : Nat}
theorem TurnBr.trans (h : TurnBr br w wr) (k : TurnBr br wr w') : TurnBr br w w' := Turned.trans (S := fun k => k = br ∨ w.heap.size ≤ k) h (Turned.mono k (fun k hk => by have := h.size; omega))
theorem TurnBr.of_below (hb : Below wr.heap.size wr w') : TurnBr br wr w' := TurnBr.below (Turned.refl _ _) hb
theorem TurnBr.of_grown (hg : wr.grownBy w' (some br)) : TurnBr br wr w' := TurnBr.grown (Turned.refl _ _) hg
theorem TurnBr.keeps (h : TurnBr br wr w') {k : Nat} {o : Obj} (hk : wr.heap[k]? = some o) (hne : k ≠ br) : w'.heap[k]? = some o := by
  have hl := (Array.getElem?_eq_some_iff.1 hk).1
  rw [h.block k hl (by omega)]
  exact hk
theorem MachA.step {q : Nat} (h : MachA w0 w br a len cap bs am nm cm fs p wr) (ht : TurnBr br wr w') (hr : Rd w0 w' br a len cap bs q) : MachA w0 w br a len cap bs am nm cm fs q w' := by
  have hl := h.lt
  exact ⟨hr, h.turned.trans ht, hl, ht.keeps h.res (by omega), ht.keeps h.mbox (by omega), h.fns.far ht (fun k hk => by omega)⟩
theorem MachB.step {q : Nat} (h : MachB w0 w br a len cap bs am nm cm fs bf params slots ia n c p wr) (ht : TurnBr br wr w') (hr : Rd w0 w' br a len cap bs q) : MachB w0 w br a len cap bs am nm cm fs bf params slots ia n c q w' := by
  have hl := h.A.lt
  have hb := h.bfar
  exact ⟨h.A.step ht hr, ht.keeps h.fbox (by omega), h.ins.far ht (fun k hk => by omega), h.far, hb, h.sep⟩
theorem MachB.below (h : MachB w0 w br a len cap bs am nm cm fs bf params slots ia n c p wr) (hb : Below wr.heap.size wr w') : MachB w0 w br a len cap bs am nm cm fs bf params slots ia n c p w' := h.step (TurnBr.of_below hb) (h.A.rd.below' hb)
theorem MachA.below (h : MachA w0 w br a len cap bs am nm cm fs p wr) (hb : Below wr.heap.size wr w') : MachA w0 w br a len cap bs am nm cm fs p w' := h.step (TurnBr.of_below hb) (h.rd.below' hb)
/-- One more instruction. -/
theorem MachB.push {wa : World} {a' : Option Addr} {c' : Nat} (h : MachB w0 w br a len cap bs am nm cm fs bf params slots ia n c p wa) (hown : InsOwn wr w.heap.size a' (n + 1) c') (hg : wa.grownBy wr (Value.slice ia n c).ownBlock)
    (hlies : (Value.slice a' (n + 1) c').ownBlock = (Value.slice ia n c).ownBlock ∨ (Value.slice a' (n + 1) c').ownBlock = some wa.heap.size) :
    MachB w0 w br a len cap bs am nm cm fs bf params slots a' (n + 1) c' p (wr.setCell ⟨bf, 2, none⟩ (.slice a' (n + 1) c')) := by
  have hl := h.A.lt
  have hb := h.bfar
  have hne : ∀ k, (Value.slice ia n c).ownBlock = some k → w.heap.size ≤ k ∧ k < wa.heap.size := fun k hk => by obtain ⟨xs, hx⟩ := h.ins; exact hx.lt k hk
  have hnn : ∀ {k : Nat} {cs : Array Value} {t : TypeId}, wa.heap[k]? = some (.cells cs t (0, 0)) → t ≠ 41 → wr.heap[k]? = some (.cells cs t (0, 0)) := fun {k} {cs} {t} hk ht =>
    (hg.block k (Array.getElem?_eq_some_iff.1 hk).1 (fun e => ins_not h.ins hk ht k e.symm rfl)).trans hk
  have hf := hnn h.fbox (by decide)
  have ho : ∀ k, k ≠ bf → (wr.setCell ⟨bf, 2, none⟩ (.slice a' (n + 1) c')).heap[k]? = wr.heap[k]? := fun k hk => heap_setCell_other wr ⟨bf, 2, none⟩ k _ hk
  have hr : Rd w0 wr br a len cap bs p := by
    refine ⟨h.A.rd.bytes, h.A.rd.below.grown hg h.A.rd.below.size (fun k hk => by have := (hne k hk).1; have := h.A.rd.below.size; have := h.A.turned.size; have := h.A.rd.base; omega), h.A.rd.base, hnn h.A.rd.blk (by decide)⟩
  have ht2 : Turned (fun k => (Value.slice ia n c).ownBlock = some k) wa wr := turned_of_grown hg (fun k hk => hk)
  have hts := turned_store wr bf 2 (.slice a' (n + 1) c')
  have hins : ∀ {b : Option Addr} {m d : Nat}, InsOwn wr w.heap.size b m d → InsOwn (wr.setCell ⟨bf, 2, none⟩ (.slice a' (n + 1) c')) w.heap.size b m d := fun hi => hi.turned hts (fun k hk e => ins_not hi hf (by decide) k hk e)
  refine ⟨⟨hr.cell (by omega) _ _, ?_, hl, (ho _ (by omega)).trans (hnn h.A.res (by decide)), (ho _ (by omega)).trans (hnn h.A.mbox (by decide)), ⟨?_, fun f hf' => hins ((h.A.fns.rows f hf').turned ht2 (h.sep f hf')), h.A.fns.small⟩⟩, ?_, hins hown, h.far, hb, fun f hf' k hk hk' => ?_⟩
  · exact Turned.trans (S := fun k => k = br ∨ w.heap.size ≤ k) h.A.turned (Turned.trans (b := wr) (ht2.mono (fun k hk => .inr (hne k hk).1)) (hts.mono (fun k hk => .inr (by omega))))
  · exact own_turned (own_turned h.A.fns.own ht2 (fun k hk hk' => ins_ne_fns h.ins h.A.fns.own k hk' hk)) hts (fun k hk => h.far k hk)
  · rw [heap_setCell_same wr bf 2 _ _ _ hf]; rfl
  · rcases hlies with e | e
    · rw [e] at hk'; exact h.sep f hf' k hk hk'
    · rw [e] at hk'
      cases hk'
      obtain ⟨xs, hx⟩ := h.A.fns.rows f hf'
      have := (hx.lt _ hk).2
      omega
theorem fns_not {lo : Nat} {xs : List Value} (h : w.ownsRow lo 32 3 (.slice am nm cm) nm xs) {b : Nat} {cs : Array Value} {t : TypeId} (hb : w.heap[b]? = some (.cells cs t (0, 0))) (ht : t ≠ 32) : ∀ k, (Value.slice am nm cm).ownBlock = some k → k ≠ b := by
  rintro k hk rfl
  rcases h.2 with ⟨hv, _⟩ | ⟨g, c', cur, hv, _, hg, _⟩
  · rw [hv] at hk; cases hk
  · rw [hv] at hk
    simp only [Value.ownBlock, Option.some.injEq] at hk
    subst hk
    rw [hb] at hg
    simp only [Option.some.injEq, Obj.cells.injEq] at hg
    exact ht hg.2.1
theorem FnsOwn.stored {lo : Nat} (h : FnsOwn w lo am nm cm fs) {b : Nat} {cs : Array Value} {t : TypeId} (hb : w.heap[b]? = some (.cells cs t (0, 0))) (h1 : t ≠ 32) (h2 : t ≠ 41) (i : Nat) (v : Value) : FnsOwn (w.setCell ⟨b, i, none⟩ v) lo am nm cm fs :=
  ⟨own_turned h.own (turned_store w b i v) (fun k hk => fns_not h.own hb h1 k hk), fun f hf => (h.rows f hf).turned (turned_store w b i v) (fun k hk => ins_not (h.rows f hf) hb h2 k hk), h.small⟩
/-- One more function. -/
theorem MachB.finish {a' : Option Addr} {c' : Nat} (h : MachB w0 w br a len cap bs am nm cm fs bf params slots ia n c p wr) (hn : 1 ≤ n ∧ n ≤ 20)
    (hown : w'.ownsRow w.heap.size 32 3 (.slice a' (nm + 1) c') (nm + 1) (fs.flatMap FnH.cells ++ (FnH.mk params slots ia n c).cells)) (hg : wr.grownBy w' (Value.slice am nm cm).ownBlock) :
    MachA w0 w br a len cap bs a' (nm + 1) c' (fs ++ [⟨params, slots, ia, n, c⟩]) p (w'.setCell ⟨w.heap.size + 1, 0, none⟩ (.slice a' (nm + 1) c')) := by
  have hl := h.A.lt
  have hne : ∀ k, (Value.slice am nm cm).ownBlock = some k → w.heap.size ≤ k := fun k hk => (h.A.fns.own.lt k hk).1
  have hnn : ∀ {k : Nat} {cs : Array Value} {t : TypeId}, wr.heap[k]? = some (.cells cs t (0, 0)) → t ≠ 32 → w'.heap[k]? = some (.cells cs t (0, 0)) := fun {k} {cs} {t} hk ht =>
    (hg.block k (Array.getElem?_eq_some_iff.1 hk).1 (fun e => fns_not h.A.fns.own hk ht k e.symm rfl)).trans hk
  have hf := hnn h.A.mbox (by decide)
  have ho : ∀ k, k ≠ w.heap.size + 1 → (w'.setCell ⟨w.heap.size + 1, 0, none⟩ (.slice a' (nm + 1) c')).heap[k]? = w'.heap[k]? := fun k hk => heap_setCell_other w' ⟨w.heap.size + 1, 0, none⟩ k _ hk
  have hr : Rd w0 w' br a len cap bs p :=
    ⟨h.A.rd.bytes, h.A.rd.below.grown hg h.A.rd.below.size (fun k hk => by have := hne k hk; have := h.A.rd.base; omega), h.A.rd.base, hnn h.A.rd.blk (by decide)⟩
  have ht2 : Turned (fun k => (Value.slice am nm cm).ownBlock = some k) wr w' := turned_of_grown hg (fun k hk => hk)
  refine ⟨hr.cell (by omega) _ _, ?_, hl, (ho _ (by omega)).trans (hnn h.A.res (by decide)), ?_, (FnsOwn.push (f := ⟨params, slots, ia, n, c⟩) h.A.fns h.ins hn hown hg).stored hf (by decide) (by decide) 0 _⟩
  · exact Turned.trans (S := fun k => k = br ∨ w.heap.size ≤ k) h.A.turned (Turned.trans (b := w') (ht2.mono (fun k hk => .inr (hne k hk))) ((turned_store w' (w.heap.size + 1) 0 _).mono (fun k hk => .inr (by omega))))
  · rw [heap_setCell_same w' (w.heap.size + 1) 0 _ _ _ hf]; rfl
end

end Go.Proofs.YtdkafajmhgfkoaaDoor
