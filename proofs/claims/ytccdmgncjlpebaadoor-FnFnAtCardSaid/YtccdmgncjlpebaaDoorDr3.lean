/-
  The reference draws expressions with calls (l2Any). (printed by mkdr3.py)
-/
import Derived.Test.YtccdmgncjlpebaaDoorDr2
import Derived.Deep.RegionLaw
import Derived.Deep.LoopGhost

namespace Go.Proofs.YtccdmgncjlpebaaDoor
open Go.RowKit
set_option linter.unusedVariables false

theorem TurnR.drewN (br : Nat) (w : World) (n : Nat) : TurnR br w (w.drewN n) := TurnR.below (below_drewN (Below.refl _ _) n)
theorem StrsA.drewN {br : Nat} {w : World} {a : Option Addr} {m : Nat} {xs : List ByteArray} (n : Nat) (h : StrsA br w a m xs) : StrsA br (w.drewN n) a m xs := h.turn (TurnR.drewN br w n)
/-- What is known while an expression that was drawn waits: the result's block, its own. -/
structure ESt (w0 w : World) (br : Nat) (a : Option Addr) (len cap : Nat) (bs : List Int) (eb d : Nat) (ecs : List Value) (x : ExprD) (p : Nat) (wr : World) : Prop where
  res : ResAt w0 w br a len cap bs p wr
  lt : w.heap.size < eb
  erow : wr.heap[eb]? = some (.cells ecs.toArray 54 (0, 0))
  ex : ExprP d (fun b => w.heap.size < b ∧ b < eb) wr ecs x
  top : TopG d (w.heap.size + 1) eb wr ecs x
/-- What is known while a call's parts are drawn. -/
structure AnySt (w0 w : World) (br : Nat) (a : Option Addr) (len cap : Nat) (bs : List Int) (eb cb : Nat) (d : Nat) (ecs : List Value) (x : ExprD) (nm : ByteArray) (p : Nat) (ka : Option Addr) (k kc : Nat) (ks : List ExprD) (wr : World) : Prop where
  e : ESt w0 w br a len cap bs eb d ecs x p wr
  lt : eb < cb
  crow : wr.heap[cb]? = some (.cells #[.int .i64 13, .int .i64 0, .string nm, .slice ka k kc] 54 (0, 0))
  list : ListG 3 (fun b => cb < b) (cb + 1) wr ka k kc ks
  long : ∀ y ∈ ks, anyE longP 3 y = false
section
variable {w0 w wr w' : World} {br : Nat} {a : Option Addr} {len cap : Nat} {bs : List Int} {eb cb d : Nat} {ecs : List Value} {x : ExprD} {nm : ByteArray} {p q : Nat} {ka : Option Addr} {k kc : Nat} {ks : List ExprD}
theorem ESt.size (h : ESt w0 w br a len cap bs eb d ecs x p wr) : eb < wr.heap.size := (Array.getElem?_eq_some_iff.1 h.erow).1
theorem ESt.step (h : ESt w0 w br a len cap bs eb d ecs x p wr) (ht : TurnR br wr w') (hr : Rd w0 w' br a len cap bs q) : ESt w0 w br a len cap bs eb d ecs x q w' := by
  have hbr := h.res.lt
  have hlt := h.lt
  have hs := h.size
  exact ⟨h.res.step ht hr, h.lt, (ht.block (by omega) (by omega)).trans h.erow, exprP_turned (T := fun k => k = br ∨ wr.heap.size ≤ k) ht (fun i h1 h2 h3 => by rcases h3 with h3 | h3 <;> omega) h.ex, h.top.turned (T := fun k => k = br ∨ wr.heap.size ≤ k) ht (fun i h1 h2 h3 h4 => by rcases h4 with h4 | h4 <;> omega)⟩
theorem ESt.later (h : ESt w0 w br a len cap bs eb d ecs x p wr) (hb : Below wr.heap.size wr w') : ESt w0 w br a len cap bs eb d ecs x p w' := h.step (TurnR.below hb) (h.res.rd.later' hb)
theorem ESt.alloc (o : Obj) (h : ESt w0 w br a len cap bs eb d ecs x p wr) : ESt w0 w br a len cap bs eb d ecs x p (wr.alloc o) := h.later ((Below.refl _ _).alloc (Nat.le_refl _) _)
theorem AnySt.size (h : AnySt w0 w br a len cap bs eb cb d ecs x nm p ka k kc ks wr) : cb < wr.heap.size := (Array.getElem?_eq_some_iff.1 h.crow).1
theorem AnySt.step (h : AnySt w0 w br a len cap bs eb cb d ecs x nm p ka k kc ks wr) (ht : TurnR br wr w') (hr : Rd w0 w' br a len cap bs q) : AnySt w0 w br a len cap bs eb cb d ecs x nm q ka k kc ks w' := by
  have hbr := h.e.res.lt
  have hlt := h.lt
  have hle := h.e.lt
  have hcb := h.size
  refine ⟨h.e.step ht hr, h.lt, (ht.block (by omega) (by omega)).trans h.crow, ?_, h.long⟩
  obtain ⟨⟨cells, k1, k2⟩, k3⟩ := h.list
  exact ListG.turned ⟨⟨cells, k1, k2⟩, k3⟩ (T := fun k => k = br ∨ wr.heap.size ≤ k) ht (fun i hi h3 => by have := k1.lt i hi; rcases h3 with h3 | h3 <;> omega) (fun i h1 h2 h3 => by rcases h3 with h3 | h3 <;> omega)
theorem AnySt.later (h : AnySt w0 w br a len cap bs eb cb d ecs x nm p ka k kc ks wr) (hb : Below wr.heap.size wr w') : AnySt w0 w br a len cap bs eb cb d ecs x nm p ka k kc ks w' := h.step (TurnR.below hb) (h.e.res.rd.later' hb)
theorem AnySt.alloc (o : Obj) (h : AnySt w0 w br a len cap bs eb cb d ecs x nm p ka k kc ks wr) : AnySt w0 w br a len cap bs eb cb d ecs x nm p ka k kc ks (wr.alloc o) := h.later ((Below.refl _ _).alloc (Nat.le_refl _) _)
theorem AnySt.drewN (n : Nat) (h : AnySt w0 w br a len cap bs eb cb d ecs x nm p ka k kc ks wr) : AnySt w0 w br a len cap bs eb cb d ecs x nm p ka k kc ks (wr.drewN n) := h.later (below_drewN (Below.refl _ _) n)
theorem AnySt.drew (h : AnySt w0 w br a len cap bs eb cb d ecs x nm p ka k kc ks wr) : AnySt w0 w br a len cap bs eb cb d ecs x nm p ka k kc ks wr.drew := h.drewN 1
theorem AnySt.kids (h : AnySt w0 w br a len cap bs eb cb d ecs x nm p ka k kc ks wr) : wr.cell? ⟨cb, 3, none⟩ = some (.slice ka k kc) := cell_of_row _ _ 3 _ _ _ h.crow
/-- The call's block stays while a part is appended. -/
theorem AnySt.after {W w9 : World} (h : AnySt w0 w br a len cap bs eb cb d ecs x nm p ka k kc ks wr) (hg : W.grownBy w9 (Value.slice ka k kc).ownBlock) (hb : Below wr.heap.size wr W) : w9.heap[cb]? = some (.cells #[.int .i64 13, .int .i64 0, .string nm, .slice ka k kc] 54 (0, 0)) := by
  have hW := h.later hb
  refine (hg.block cb hW.size (fun e => ?_)).trans hW.crow
  obtain ⟨⟨cells, k1, _⟩, _⟩ := h.list
  have := (k1.lt cb e.symm).1
  omega
/-- One more part: appended, stored. -/
theorem AnySt.push {W w9 : World} {cl : List Value} {y : ExprD} {a' : Option Addr} {c' : Nat} {cells : List (List Value)} (h0 : AnySt w0 w br a len cap bs eb cb d ecs x nm p ka k kc ks wr) (hrows : RowsG 3 (fun b => cb < b) (cb + 1) wr ka k kc ks cells) (hy : ExprP 3 (fun b => cb < b ∧ ¬ (Value.slice ka k kc).ownBlock = some b) wr cl y) (hl : anyE longP 3 y = false)
    (hown : w9.ownsRow (cb + 1) 54 4 (.slice a' (k + 1) c') (k + 1) (cells.flatten ++ cl)) (hg : W.grownBy w9 (Value.slice ka k kc).ownBlock)
    (hlie : (Value.slice a' (k + 1) c').ownBlock = (Value.slice ka k kc).ownBlock ∨ (Value.slice a' (k + 1) c').ownBlock = some W.heap.size) (hb : Below wr.heap.size wr W) : AnySt w0 w br a len cap bs eb cb d ecs x nm p a' (k + 1) c' (ks ++ [y]) (w9.setCell ⟨cb, 3, none⟩ (.slice a' (k + 1) c')) := by
  have h := h0.later hb
  have hbr := h.e.res.lt
  have hlt := h.lt
  have hle := h.e.lt
  have hcb := h.size
  have hrow : ∀ i, (Value.slice ka k kc).ownBlock = some i → cb < i := fun i hi => by
    have := hrows.1.lt i hi
    omega
  have hrow' : ∀ i, (Value.slice a' (k + 1) c').ownBlock = some i → cb < i := fun i hi => by
    rcases hlie with h1 | h1
    · exact hrow i (h1 ▸ hi)
    · rw [h1] at hi
      have := Option.some.inj hi
      omega
  have ht := turned_of_grown hg (S := fun k' => (Value.slice ka k kc).ownBlock = some k') (fun k hk => hk)
  have hbl : ∀ b, b < W.heap.size → b ≤ cb → w9.heap[b]? = W.heap[b]? := fun b h1 h2 => ht.block b h1 (fun e => by have := hrow b e; omega)
  have hput := turned_store w9 cb 3 (.slice a' (k + 1) c')
  have hbl2 : ∀ b, b < W.heap.size → b < cb → (w9.setCell ⟨cb, 3, none⟩ (.slice a' (k + 1) c')).heap[b]? = W.heap[b]? := fun b h1 h2 => (heap_setCell_other w9 ⟨cb, 3, none⟩ b _ (by show b ≠ cb; omega)).trans (hbl b h1 (by omega))
  have hbase : w0.heap.size ≤ br := h.e.res.rd.base
  have hlist := (hrows.below hb).push h0.list.length (exprP_below hb hy) hown hg hlie
  refine ⟨⟨⟨⟨h.e.res.rd.bytes, ?_, h.e.res.rd.base, ?_⟩, ?_, h.e.res.lt, ?_⟩, h.e.lt, ?_, ?_, ?_⟩, h.lt, ?_, ?_, ?_⟩
  · exact (h.e.res.rd.below.trans (ht.below (B := w0.heap.size) h.e.res.rd.below.size (fun i hi => by have := hrow i hi; omega))).setCell (show w0.heap.size ≤ cb by omega) _
  · exact (hbl2 br h.e.res.rd.lt (by omega)).trans h.e.res.rd.blk
  · refine Turned.trans (S := fun k => k = br ∨ w.heap.size ≤ k) h.e.res.turned (Turned.trans (b := w9) (ht.mono (fun i hi => .inr ?_)) (hput.mono (fun i hi => .inr ?_)))
    · have := hrow i hi; omega
    · omega
  · exact (hbl2 _ h.e.res.size (by omega)).trans h.e.res.row
  · exact (hbl2 _ h.e.size (by omega)).trans h.e.erow
  · exact exprP_turned hput (fun i h1 h2 h3 => by obtain ⟨g1, g2⟩ := h2; omega) (exprP_turned ht (fun i h1 h2 h3 => by obtain ⟨g1, g2⟩ := h2; have := hrow i h3; omega) h.e.ex)
  · exact (h.e.top.turned ht (fun i h1 h2 h3 h4 => by have := hrow i h4; omega)).turned hput (fun i h1 h2 h3 h4 => by omega)
  · have h1 := (hbl cb hcb (Nat.le_refl _)).trans h.crow
    rw [heap_setCell_same w9 cb 3 _ _ _ h1]
    rfl
  · exact hlist.turned hput (fun i hi h3 => by have := hrow' i hi; omega) (fun i h1 h2 h3 => by omega)
  · intro z hz
    rcases List.mem_append.1 hz with hz | hz
    · exact h.long z hz
    · simp at hz; subst hz; exact hl
end

/-- So many things, drawn one by one. -/
def manyF {α : Type} (f : Nat → α × Nat) : Nat → Nat → List α × Nat
  | 0, p => ([], p)
  | k + 1, p => ((manyF f k p).1 ++ [(f (manyF f k p).2).1], (f (manyF f k p).2).2)
theorem manyF_step {α : Type} {f : Nat → α × Nat} {k p q q' : Nat} {ks : List α} {y : α} (h : manyF f k p = (ks, q)) (hy : f q = (y, q')) : manyF f (k + 1) p = (ks ++ [y], q') := by rw [manyF, h, hy]
/-- An expression, with calls. -/
def anyF (bs : List Int) (n p : Nat) : ExprD × Nat :=
  let r := exprF bs [⟨#[97]⟩, ⟨#[98]⟩, ⟨#[120]⟩, ⟨#[103, 111]⟩] n p
  if 0 < pickF bs 3 r.2 then (r.1, r.2 + 1)
  else
    let ks := manyF (exprF bs [⟨#[97]⟩, ⟨#[98]⟩] 2) (pickF bs 4 (r.2 + 2)).toNat (r.2 + 3)
    let c : ExprD := .mk 13 0 (ofF bs [⟨#[102]⟩, ⟨#[103]⟩, ⟨#[97]⟩] (r.2 + 1)) ks.1
    if pickF bs 2 ks.2 = 0 then (c, ks.2 + 1) else (.mk 3 0 ⟨#[]⟩ [r.1, c], ks.2 + 1)
theorem anyF_low {bs : List Int} {n p q2 : Nat} {x : ExprD} (h : exprF bs [⟨#[97]⟩, ⟨#[98]⟩, ⟨#[120]⟩, ⟨#[103, 111]⟩] n p = (x, q2)) (hv : 0 < pickF bs 3 q2) : anyF bs n p = (x, q2 + 1) := by
  simp only [anyF, h, if_pos hv]
theorem anyF_call {bs : List Int} {n p q2 q N : Nat} {x : ExprD} {nm : ByteArray} {ks : List ExprD} (h : exprF bs [⟨#[97]⟩, ⟨#[98]⟩, ⟨#[120]⟩, ⟨#[103, 111]⟩] n p = (x, q2)) (hv : ¬ 0 < pickF bs 3 q2) (hn : ofF bs [⟨#[102]⟩, ⟨#[103]⟩, ⟨#[97]⟩] (q2 + 1) = nm) (hN : pickF bs 4 (q2 + 2) = (N : Int))
    (hk : manyF (exprF bs [⟨#[97]⟩, ⟨#[98]⟩] 2) N (q2 + 3) = (ks, q)) : anyF bs n p = if pickF bs 2 q = 0 then (.mk 13 0 nm ks, q + 1) else (.mk 3 0 ⟨#[]⟩ [x, .mk 13 0 nm ks], q + 1) := by
  simp only [anyF, h, if_neg hv, hN, Int.toNat_natCast, hk, hn]

set_option maxRecDepth 100000 in
set_option maxHeartbeats 4000000 in
theorem l2Any_any (w0 w : World) (br : Nat) (a : Option Addr) (len cap : Nat) (bs : List Int) (hlen : len ≤ 2000) (n : Nat) (hn : n ≤ 100) (p : Nat) (hrd : Rd w0 w br a len cap bs p) (hp : p + costE n + 1000 ≤ 1000000000) :
    Calls Tryd.prog 27 #[.pointer (some ⟨br, 0, none⟩), .int .i64 (n : Int)] w fun e w' => ExprDrawn w0 w br a len cap bs p (costE n + 100) (n + 5) (anyF bs n) e w' := by
  have HP := Lib.hid (And.intro hp hn)
  have HR := Lib.hid (ResAt.start hrd)
  clear hrd hp hn
  go_enter Tryd.func27, Tryd.ntmps27
  go_upto_region 1 with fail
  generalize w.alloc (.cells #[.int .i64 0, .int .i64 0, .string ⟨#[]⟩, .slice none 0 0] 54) = W1 at HR ⊢
  have HCALL := Lib.hid (l2Expr_any w0 br a len cap bs hlen (some ⟨W1.heap.size, 0, none⟩) 4 4 [⟨#[97]⟩, ⟨#[98]⟩, ⟨#[120]⟩, ⟨#[103, 111]⟩] (by decide) (by omega) n _ p HP.out.2 (HR.out.alloc (.cells ([(⟨#[97]⟩ : ByteArray), ⟨#[98]⟩, ⟨#[120]⟩, ⟨#[103, 111]⟩].map Value.string).toArray 9)).rd (by have := HP.out.1; omega) (StrsA.lit W1 _ HR.out.rd.lt))
  go_wp2_with fail
  refine HCALL.out.mono ?_
  rintro e w2 ⟨ecs, x, q2, rfl, hrd2, hq2, ht2, hx2, hl2, hT2, hF2⟩
  obtain ⟨xa, xc, rfl⟩ := exprP_form hx2
  have hR2 := (HR.out.alloc (.cells ([(⟨#[97]⟩ : ByteArray), ⟨#[98]⟩, ⟨#[120]⟩, ⟨#[103, 111]⟩].map Value.string).toArray 9)).step ht2 hrd2
  have HE := Lib.hid (show ESt w0 w br a len cap bs w2.heap.size (n + 1) [.int .i64 x.op, .int .i64 x.n, .string x.name, .slice xa x.kids.length xc] x q2 (w2.alloc (.cells #[.int .i64 x.op, .int .i64 x.n, .string x.name, .slice xa x.kids.length xc] 54)) from
    ⟨hR2.alloc _, hR2.size, heap_alloc_new w2 _, exprP_below ((Below.refl _ _).alloc (Nat.le_refl _) _) (exprP_mono (fun k h1 h => by have h2 := (HR.out.alloc (.cells ([(⟨#[97]⟩ : ByteArray), ⟨#[98]⟩, ⟨#[120]⟩, ⟨#[103, 111]⟩].map Value.string).toArray 9)).size; exact ⟨by omega, h1⟩) hx2), (hT2.wide (Nat.le_refl _) (by have h2 := (HR.out.alloc (.cells ([(⟨#[97]⟩ : ByteArray), ⟨#[98]⟩, ⟨#[120]⟩, ⟨#[103, 111]⟩].map Value.string).toArray 9)).size; omega) (Nat.le_refl _)).below ((Below.refl _ _).alloc (Nat.le_refl _) _)⟩)
  have HQ2 := Lib.hid (And.intro hq2 hl2)
  have HF2 := Lib.hid hF2
  clear hrd2 hq2 ht2 hx2 hl2 hT2 hR2 HCALL hF2
  go_upto_region 2 with fail
  obtain ⟨eb, heb⟩ : ∃ b, b = w2.heap.size := ⟨_, rfl⟩
  rw [← heb] at HE ⊢
  generalize w2.alloc (.cells #[.int .i64 x.op, .int .i64 x.n, .string x.name, .slice xa x.kids.length xc] 54) = W3 at HE ⊢
  clear heb
  go_wp2_with fail
  refine (pick_fun w0 _ br a len cap bs q2 3 HE.out.res.rd (by omega) hlen (by have := HP.out.1; have := HQ2.out.1; omega)).mono ?_
  rintro e w4 ⟨v, _, _, rfl, hrd4, hg4, hV4⟩
  have HE4 := Lib.hid (HE.out.step (TurnR.grown hg4) hrd4)
  clear hrd4 hg4 HE
  by_cases hv : 0 < v
  · have e0 := cell_of_row _ _ 0 _ _ _ HE4.out.erow
    have e1 := cell_of_row _ _ 1 _ _ _ HE4.out.erow
    have e2 := cell_of_row _ _ 2 _ _ _ HE4.out.erow
    have e3 := cell_of_row _ _ 3 _ _ _ HE4.out.erow
    simp only [List.getElem?_toArray, List.getElem?_cons_zero, List.getElem?_cons_succ] at e0 e1 e2 e3
    have c0 := HE4.out.res.c0
    have c1 := HE4.out.res.c1
    have c2 := HE4.out.res.c2
    have c3 := HE4.out.res.c3
    have f0 := HE4.out.res.f 0
    have f1 := HE4.out.res.f 1
    have f2 := HE4.out.res.f 2
    have f3 := HE4.out.res.f 3
    go_wp2
    refine bodyPost_ret (results_cell_row rfl _ _ w.heap.size 54 #[.int .i64 x.op, .int .i64 x.n, .string x.name, .slice xa x.kids.length xc] (0, 0) _ rfl ?_ Tryd.underlying54 rfl (by kernel_rfl)) rfl ?_
    · exact HE4.out.res.put (cs := [.int .i64 x.op, .int .i64 x.n, .string x.name, .slice xa x.kids.length xc]) rfl
    have hdone := HE4.out.res.done (p := p) (P := costE n + 100) (exprP_le (by omega : n + 1 ≤ n + 5) (exprP_mono (fun k _ h => h.1) HE4.out.ex)) (by rw [anyE_deep HE4.out.ex (by omega)]; exact HQ2.out.2) (by have := HQ2.out.1; omega) (HE4.out.top.wide (by omega) (Nat.le_refl _) (Nat.le_of_lt HE4.out.size)) (F := anyF bs n) (anyF_low HF2.out (by rw [hV4]; exact hv))
    rw [setCells4] at hdone
    exact hdone
  have hv0 : decide (0 < v) = false := decide_eq_false hv
  go_wp2_with fail
  refine (of_fun w0 _ br a len cap bs (q2 + 1) (some ⟨w4.heap.size, 0, none⟩) 3 3 [⟨#[102]⟩, ⟨#[103]⟩, ⟨#[97]⟩] (HE4.out.alloc (.cells ([(⟨#[102]⟩ : ByteArray), ⟨#[103]⟩, ⟨#[97]⟩].map Value.string).toArray 9)).res.rd (StrsA.lit w4 _ HE4.out.res.rd.lt) (by omega) hlen (by have := HP.out.1; have := HQ2.out.1; omega)).mono ?_
  rintro e w5 ⟨nm, hnm, rfl, hrd5, hg5, hF5⟩
  have HNM := Lib.hid (show nm.size ≤ maxLen by
    have : ∀ s ∈ [(⟨#[102]⟩ : ByteArray), ⟨#[103]⟩, ⟨#[97]⟩], s.size ≤ maxLen := by decide
    exact this nm hnm)
  have hE5 := (HE4.out.alloc (.cells ([(⟨#[102]⟩ : ByteArray), ⟨#[103]⟩, ⟨#[97]⟩].map Value.string).toArray 9)).step (TurnR.grown hg5) hrd5
  have HA := Lib.hid (show AnySt w0 w br a len cap bs eb w5.heap.size (n + 1) [.int .i64 x.op, .int .i64 x.n, .string x.name, .slice xa x.kids.length xc] x nm (q2 + 1 + 1) none 0 0 [] (w5.alloc (.cells #[.int .i64 13, .int .i64 0, .string nm, .slice none 0 0] 54)) from
    ⟨hE5.alloc _, hE5.size, heap_alloc_new w5 _, ListG.nil _ _ _ _, by simp⟩)
  have HV4 := Lib.hid (And.intro (show ¬ 0 < pickF bs 3 q2 by rw [hV4]; omega) hF5)
  clear hrd5 hg5 hnm hE5 HE4 hv0 hv hV4 hF5
  go_upto_region 5 with fail
  obtain ⟨cb, hcb⟩ : ∃ b, b = w5.heap.size := ⟨_, rfl⟩
  rw [← hcb] at HA ⊢
  generalize w5.alloc (.cells #[.int .i64 13, .int .i64 0, .string nm, .slice none 0 0] 54) = W6 at HA ⊢
  clear hcb
  go_wp2_with fail
  refine (pick_fun w0 _ br a len cap bs (q2 + 1 + 1) 4 HA.out.e.res.rd (by omega) hlen (by have := HP.out.1; have := HQ2.out.1; omega)).mono ?_
  rintro e w7 ⟨v7, h70, h71, rfl, hrd7, hg7, hF7⟩
  obtain ⟨N, rfl⟩ := Int.eq_ofNat_of_zero_le h70
  have HA7 := Lib.hid (HA.out.step (TurnR.grown hg7) hrd7)
  have HN3 := Lib.hid (show N ≤ 3 by omega)
  have HF7 := Lib.hid (show pickF bs 4 (q2 + 2) = (N : Int) from hF7)
  clear hrd7 hg7 h70 h71 HA hF7
  go_wp2_with fail
  go_loopg [7] N (fun G i wr => ∃ (ka : Option Addr) (k kc : Nat) (ks : List ExprD) (q : Nat), k + G = N ∧ i = .int .i64 G ∧ Hid (AnySt w0 w br a len cap bs eb cb (n + 1) [.int .i64 x.op, .int .i64 x.n, .string x.name, .slice xa x.kids.length xc] x nm q ka k kc ks wr ∧ q ≤ q2 + 3 + 28 * k ∧ manyF (exprF bs [⟨#[97]⟩, ⟨#[98]⟩] 2) k (q2 + 3) = (ks, q)))
  case atStart => exact ⟨none, 0, 0, [], _, by omega, rfl, Lib.hid ⟨HA7.out, by omega, rfl⟩⟩
  case round =>
    obtain ⟨ka, k, kc, ks, q, hk, rfl, HB⟩ := hrel
    clear HA7
    by_cases hlt : 0 < gk
    · have hki : (0 : Int) < (gk : Int) := by omega
      have HWR := Lib.hid (show wrap64 ((gk : Int) - 1) = ((gk - 1 : Nat) : Int) by
        rw [show (gk : Int) - 1 = ((gk - 1 : Nat) : Int) by omega]
        exact IntWalk.wrap64_in _ (by have := HN3.out; omega))
      go_upto_region 8 with fail
      have HL := Lib.hid (show ∀ (W : World) (na : Option Addr), AnySt w0 w br a len cap bs eb cb (n + 1) [.int .i64 x.op, .int .i64 x.n, .string x.name, .slice xa x.kids.length xc] x nm q ka k kc ks W → StrsA br W na 2 [⟨#[97]⟩, ⟨#[98]⟩] →
          Calls Tryd.prog 43 #[.pointer (some ⟨br, 0, none⟩), .slice na 2 2, .int .i64 2] W fun e W' => ∃ y ja jc q', e = .returned (.agg #[.int .i64 y.op, .int .i64 y.n, .string y.name, .slice ja y.kids.length jc]) ∧ AnySt w0 w br a len cap bs eb cb (n + 1) [.int .i64 x.op, .int .i64 x.n, .string x.name, .slice xa x.kids.length xc] x nm q' ka k kc ks W' ∧ (q' ≤ q + 28 ∧ exprF bs [⟨#[97]⟩, ⟨#[98]⟩] 2 q = (y, q')) ∧
            ExprP 3 (fun b => cb < b ∧ ¬ (Value.slice ka k kc).ownBlock = some b) W' [.int .i64 y.op, .int .i64 y.n, .string y.name, .slice ja y.kids.length jc] y ∧ anyE longP 3 y = false from fun W na hW hS => by
        refine (l2Expr_any w0 br a len cap bs hlen na 2 2 [⟨#[97]⟩, ⟨#[98]⟩] (by decide) (by omega) 2 W q (by omega) hW.e.res.rd (by have := HB.out.2.1; have := HP.out.1; have := HQ2.out.1; have := HN3.out; show q + 28 ≤ _; omega) hS).mono ?_
        rintro e W' ⟨cs, y, q', rfl, hrd, hq, ht, hy, hl, -, hFy⟩
        obtain ⟨ja, jc, rfl⟩ := exprP_form hy
        refine ⟨y, ja, jc, q', rfl, hW.step ht hrd, ⟨hq, hFy⟩, exprP_mono (fun i h1 h2 => ⟨by have := hW.size; omega, fun e => ?_⟩) hy, hl⟩
        obtain ⟨⟨cells, k1, _⟩, _⟩ := hW.list
        have := (k1.lt i e).2
        omega)
      have HD := Lib.hid (fun (W : World) (h : AnySt w0 w br a len cap bs eb cb (n + 1) [.int .i64 x.op, .int .i64 x.n, .string x.name, .slice xa x.kids.length xc] x nm q ka k kc ks W) => h.kids)
      have k3 := HB.out.1.kids
      have k3a := (HB.out.1.alloc (.cells #[.string ⟨#[97]⟩, .string ⟨#[98]⟩] 9)).kids
      go_region_law (first | (go_simp; go_at_call 43; refine (HL.out _ _ (by repeat (first | exact HB.out.1 | apply AnySt.drew | apply AnySt.drewN | apply AnySt.alloc)) (by repeat (first | exact StrsA.lit _ [⟨#[97]⟩, ⟨#[98]⟩] HB.out.1.e.res.rd.lt | apply StrsA.drewN 1))).mono ?_; rintro e w8 ⟨y, ja, jc, q8, rfl, hA8, hq8, hy8, hl8⟩; (have k38 := hA8.kids); (have i38 := (hA8.alloc (.cells #[.int .i64 y.op, .int .i64 y.n, .string y.name, .slice ja y.kids.length jc] 54)).kids); (obtain ⟨cells, hrows⟩ := hA8.list.rows)) | (refine step_app_expr rfl (.tmp 27) (.tmp 31) rfl (cb + 1) _ k _ rfl (ownsRow_below hrows.1 (by repeat (first | exact Below.refl _ _ | apply later_drew | apply later_drewN | apply later_alloc))) _ 1 [.int .i64 y.op, .int .i64 y.n, .string y.name, .slice ja y.kids.length jc] rfl (by first | exact rowAt_laidE' _ _ _ | exact RowAt.drew (rowAt_laidE' _ _ _)) rfl oneCell_expr (by have := HN3.out; omega) (Nat.le_trans hA8.size (Below.size (show Below w8.heap.size w8 _ from by repeat (first | exact Below.refl _ _ | apply later_drew | apply later_drewN | apply later_alloc)))) ?_; intro a9 c9 w9 hown9 hg9 hlies9; (have h9 := hA8.after hg9 (by repeat (first | exact Below.refl _ _ | apply later_drew | apply later_drewN | apply later_alloc))); (have s3 := cell_of_row _ _ 3 _ _ _ h9); (have t3 := frozen_of_row _ _ 3 _ _ h9); (have hP9 := hA8.push hrows hy8 hl8 hown9 hg9 hlies9 (by repeat (first | exact Below.refl _ _ | apply later_drew | apply later_drewN | apply later_alloc)))))
      all_goals
        have HP9 := Lib.hid (And.intro hP9 hq8)
        clear hA8 hq8 hy8 hl8 k38 i38 hrows hown9 hg9 hlies9 h9 s3 t3 hP9 k3 k3a
        generalize w9.setCell ⟨cb, 3, none⟩ (.slice a9 (k + 1) c9) = w10 at HP9 ⊢
        go_wp2
        go_roundg (gk - 1)
        case measure => omega
        case rel => exact ⟨_, k + 1, _, _, _, by omega, by rw [HWR.out], Lib.hid ⟨HP9.out.1, by have := HP9.out.2.1; have := HB.out.2.1; omega, manyF_step HB.out.2.2 HP9.out.2.2⟩⟩
    · obtain rfl : gk = 0 := by omega
      have HQ := Lib.hid (show q + 1 ≤ p + costE n + 100 ∧ k ≤ 3 by have := HB.out.2.1; have := HN3.out; have := HQ2.out.1; omega)
      go_wp2_with fail
      refine (pick_fun w0 _ br a len cap bs q 2 HB.out.1.e.res.rd (by omega) hlen (by have := HP.out.1; have := HQ.out; omega)).mono ?_
      rintro e w8 ⟨v8, _, _, rfl, hrd8, hg8, hF8⟩
      have HC := Lib.hid (HB.out.1.step (TurnR.grown hg8) hrd8)
      have HKID := Lib.hid (show ExprP 4 (fun b => w.heap.size < b) w8 [.int .i64 13, .int .i64 0, .string nm, .slice ka ks.length kc] (.mk 13 0 nm ks) ∧ anyE longP 4 (.mk 13 0 nm ks) = false by
        have hl := HC.out.list.list
        have hlen2 := HC.out.list.length
        have h1 := HC.out.lt
        have h2 := HC.out.e.lt
        refine ⟨⟨ka, kc, rfl, ⟨by show ks.length ≤ maxLen; have := HQ.out.2; unfold maxLen; omega, (by decide : (-9223372036854775808 : Int) ≤ 13), (by decide : (13 : Int) ≤ 9223372036854775807)⟩, hl.mono (fun _ _ _ h => exprP_mono (fun i _ h3 => by rcases h3 with h3 | h3 <;> omega) h) (fun i _ h3 => by rcases h3 with h3 | h3 <;> omega)⟩, ?_⟩
        show (decide (maxLen < nm.size) || ks.any (anyE longP 3)) = false
        rw [decide_eq_false (by have := HNM.out; omega), Bool.false_or, List.any_eq_false]
        intro z hz
        rw [HC.out.long z hz]; simp)
      have HKL := Lib.hid HC.out.list.length
      have HFA := Lib.hid (show anyF bs n p = if pickF bs 2 q = 0 then (.mk 13 0 nm ks, q + 1) else (.mk 3 0 ⟨#[]⟩ [x, .mk 13 0 nm ks], q + 1) from anyF_call HF2.out (by have := HV4.out.1; omega) HV4.out.2 HF7.out (by have h := HB.out.2.2; rw [show N = k by omega]; exact h))
      have HF8 := Lib.hid hF8
      clear hrd8 hg8 hF8
      by_cases hv8 : v8 = 0
      · subst hv8
        obtain rfl : k = ks.length := HKL.out.symm
        have d0 := cell_of_row _ _ 0 _ _ _ HC.out.crow
        have d1 := cell_of_row _ _ 1 _ _ _ HC.out.crow
        have d2 := cell_of_row _ _ 2 _ _ _ HC.out.crow
        have d3 := cell_of_row _ _ 3 _ _ _ HC.out.crow
        simp only [List.getElem?_toArray, List.getElem?_cons_zero, List.getElem?_cons_succ] at d0 d1 d2 d3
        have c0 := HC.out.e.res.c0
        have c1 := HC.out.e.res.c1
        have c2 := HC.out.e.res.c2
        have c3 := HC.out.e.res.c3
        have f0 := HC.out.e.res.f 0
        have f1 := HC.out.e.res.f 1
        have f2 := HC.out.e.res.f 2
        have f3 := HC.out.e.res.f 3
        go_wp2
        refine bodyPost_ret (results_cell_row rfl _ _ w.heap.size 54 #[.int .i64 13, .int .i64 0, .string nm, .slice ka ks.length kc] (0, 0) _ rfl ?_ Tryd.underlying54 rfl (by kernel_rfl)) rfl ?_
        · exact HC.out.e.res.put (cs := [.int .i64 13, .int .i64 0, .string nm, .slice ka ks.length kc]) rfl
        have hdone := HC.out.e.res.done (p := p) (P := costE n + 100) (exprP_le (by omega : 4 ≤ n + 5) HKID.out.1) (by rw [anyE_deep HKID.out.1 (by omega)]; exact HKID.out.2) (by have := HQ.out.1; omega) ((TopG.of (HC.out.list.low (by have := HC.out.lt; have := HC.out.e.lt; omega : w.heap.size + 1 ≤ cb + 1)) (fun k _ h => by have := HC.out.lt; have := HC.out.e.lt; omega) (by have := HQ.out.2; omega)).wide (by omega) (Nat.le_refl _) (Nat.le_refl _)) (F := anyF bs n) (by rw [HFA.out, if_pos HF8.out])
        rw [setCells4] at hdone
        exact hdone
      · have h80 : (v8 == 0) = false := by simpa using hv8
        have HV8 := Lib.hid hv8
        obtain rfl : k = ks.length := HKL.out.symm
        have d0 := cell_of_row _ _ 0 _ _ _ HC.out.crow
        have d1 := cell_of_row _ _ 1 _ _ _ HC.out.crow
        have d2 := cell_of_row _ _ 2 _ _ _ HC.out.crow
        have d3 := cell_of_row _ _ 3 _ _ _ HC.out.crow
        simp only [List.getElem?_toArray, List.getElem?_cons_zero, List.getElem?_cons_succ] at d0 d1 d2 d3
        have e0 := cell_of_row _ _ 0 _ _ _ HC.out.e.erow
        have e1 := cell_of_row _ _ 1 _ _ _ HC.out.e.erow
        have e2 := cell_of_row _ _ 2 _ _ _ HC.out.e.erow
        have e3 := cell_of_row _ _ 3 _ _ _ HC.out.e.erow
        simp only [List.getElem?_toArray, List.getElem?_cons_zero, List.getElem?_cons_succ] at e0 e1 e2 e3
        have HR9 := Lib.hid (HC.out.e.res.alloc (.cells #[.int .i64 x.op, .int .i64 x.n, .string x.name, .slice xa x.kids.length xc, .int .i64 13, .int .i64 0, .string nm, .slice ka ks.length kc] 54))
        have HX9 := Lib.hid (show ExprP (n + 5) (fun k => w.heap.size < k) (w8.alloc (.cells #[.int .i64 x.op, .int .i64 x.n, .string x.name, .slice xa x.kids.length xc, .int .i64 13, .int .i64 0, .string nm, .slice ka ks.length kc] 54)) [.int .i64 3, .int .i64 0, .string ⟨#[]⟩, .slice (some ⟨w8.heap.size, 0, none⟩) 2 2] (.mk 3 0 ⟨#[]⟩ [x, .mk 13 0 nm ks]) ∧ anyE longP (n + 5) (.mk 3 0 ⟨#[]⟩ [x, .mk 13 0 nm ks]) = false ∧ TopG (n + 5) (w.heap.size + 1) (w8.alloc (.cells #[.int .i64 x.op, .int .i64 x.n, .string x.name, .slice xa x.kids.length xc, .int .i64 13, .int .i64 0, .string nm, .slice ka ks.length kc] 54)).heap.size (w8.alloc (.cells #[.int .i64 x.op, .int .i64 x.n, .string x.name, .slice xa x.kids.length xc, .int .i64 13, .int .i64 0, .string nm, .slice ka ks.length kc] 54)) [.int .i64 3, .int .i64 0, .string ⟨#[]⟩, .slice (some ⟨w8.heap.size, 0, none⟩) 2 2] (.mk 3 0 ⟨#[]⟩ [x, .mk 13 0 nm ks]) by
          have hba : Below w8.heap.size w8 (w8.alloc (.cells #[.int .i64 x.op, .int .i64 x.n, .string x.name, .slice xa x.kids.length xc, .int .i64 13, .int .i64 0, .string nm, .slice ka ks.length kc] 54)) := (Below.refl _ _).alloc (Nat.le_refl _) _
          refine ⟨twoP (by omega) (c1 := [.int .i64 x.op, .int .i64 x.n, .string x.name, .slice xa x.kids.length xc]) (heap_alloc_new w8 _) (by have := HC.out.size; have := HC.out.lt; have := HC.out.e.lt; omega) (exprP_below hba (exprP_le (by omega : n + 1 ≤ n + 4) (exprP_mono (fun k _ h => h.1) HC.out.e.ex))) (exprP_below hba (exprP_le (by omega : 4 ≤ n + 4) HKID.out.1)), long_two (by rw [anyE_deep HC.out.e.ex (by omega)]; exact HQ2.out.2) (by rw [anyE_deep HKID.out.1 (by omega)]; exact HKID.out.2), (TopG.two (c1 := [.int .i64 x.op, .int .i64 x.n, .string x.name, .slice xa x.kids.length xc]) (by have := HC.out.size; have := HC.out.lt; have := HC.out.e.lt; omega) (exprP_le (by omega : n + 1 ≤ n + 4) (exprP_mono (fun k _ h => by have := h.1; omega) HC.out.e.ex)) (exprP_le (by omega : 4 ≤ n + 4) (exprP_mono (fun k _ h => by omega) HKID.out.1))).wide (by omega) (Nat.le_refl _) (Nat.le_refl _)⟩)
        have c0 := HR9.out.c0
        have c1 := HR9.out.c1
        have c2 := HR9.out.c2
        have c3 := HR9.out.c3
        have f0 := HR9.out.f 0
        have f1 := HR9.out.f 1
        have f2 := HR9.out.f 2
        have f3 := HR9.out.f 3
        go_wp2
        refine bodyPost_ret (results_cell_row rfl _ _ w.heap.size 54 #[.int .i64 3, .int .i64 0, .string ⟨#[]⟩, .slice (some ⟨w8.heap.size, 0, none⟩) 2 2] (0, 0) _ rfl ?_ Tryd.underlying54 rfl (by kernel_rfl)) rfl ?_
        · exact HR9.out.put (cs := [.int .i64 3, .int .i64 0, .string ⟨#[]⟩, .slice (some ⟨w8.heap.size, 0, none⟩) 2 2]) rfl
        have hdone := HR9.out.done (p := p) (P := costE n + 100) (HX9.out.1) (HX9.out.2.1) (by have := HQ.out.1; omega) (HX9.out.2.2) (F := anyF bs n) (by rw [HFA.out, if_neg (by rw [HF8.out]; exact HV8.out)])
        rw [setCells4] at hdone
        exact hdone

end Go.Proofs.YtccdmgncjlpebaaDoor
