/-
  The reference draws programs: expressions (expr).
-/
import Derived.Test.YtccdmgncjlpebaaDoorGx
import Derived.Test.YtccdmgncjlpebaaDoorEp
import Derived.Deep.LoopGhost

namespace Go.Proofs.YtccdmgncjlpebaaDoor
open Go.RowKit
set_option linter.unusedVariables false

section
variable {w0 w : World} {br bg : Nat} {a : Option Addr} {len cap : Nat} {bs : List Int} {fa : Option Addr} {fc : Nat} {fns : List FnD} {va : Option Addr} {vc : Nat} {vars : List ByteArray} {next left : Int}
/-- A call is being made: its arguments so far. -/
structure YSt (w0 w : World) (br bg : Nat) (a : Option Addr) (len cap : Nat) (bs : List Int) (fa : Option Addr) (fc : Nat) (fns : List FnD) (va : Option Addr) (vc : Nat) (vars : List ByteArray) (next left : Int) (z : List Value) (ty : TypeId) (eb hi fb cb : Nat) (ecs fcs : List Value) (y : ExprD) (nm : ByteArray) (ka : Option Addr) (kc : Nat) (ks : List ExprD) (u : Nat) (wr : World) : Prop where
  b : BSt w0 w br bg a len cap bs fa fc fns va vc vars next left z ty u wr
  e : EBlk w eb hi ecs y wr
  frow : wr.heap[fb]? = some (.cells fcs.toArray 32 (0, 0))
  crow : wr.heap[cb]? = some (.cells #[.int .i64 13, .int .i64 0, .string nm, .slice ka ks.length kc] 54 (0, 0))
  lt : hi ≤ fb ∧ fb < cb
  kids : GrowK 4 (exprK 3) 54 (fun k => cb < k) (cb + 1) wr ka ks.length kc ks
variable {z : List Value} {ty : TypeId} {eb hi fb cb : Nat} {ecs fcs : List Value} {y : ExprD} {nm : ByteArray} {ka : Option Addr} {kc : Nat} {ks : List ExprD} {u u' : Nat} {wr w' : World}
theorem YSt.lts (h : YSt w0 w br bg a len cap bs fa fc fns va vc vars next left z ty eb hi fb cb ecs fcs y nm ka kc ks u wr) : w.heap.size < hi ∧ fb < wr.heap.size ∧ cb < wr.heap.size ∧ br < w.heap.size := ⟨by have := h.e.lt; omega, (Array.getElem?_eq_some_iff.1 h.frow).1, (Array.getElem?_eq_some_iff.1 h.crow).1, h.b.lt.1⟩
theorem YSt.step {q : Nat} (h : YSt w0 w br bg a len cap bs fa fc fns va vc vars next left z ty eb hi fb cb ecs fcs y nm ka kc ks u wr) (ht : TurnR br wr w') (hr : Rd w0 w' br a len cap bs q) (hq : q ≤ u') (hu : u ≤ u') : YSt w0 w br bg a len cap bs fa fc fns va vc vars next left z ty eb hi fb cb ecs fcs y nm ka kc ks u' w' := by
  have h1 := h.lts
  have h2 := h.lt
  refine ⟨h.b.step ht hr hq hu, h.e.step ht h1.2.2.2, (ht.block h1.2.1 (by omega)).trans h.frow, (ht.block h1.2.2.1 (by omega)).trans h.crow, h.lt, ?_⟩
  refine h.kids.turned (exprK_stays 3) (T := fun k => k = br ∨ wr.heap.size ≤ k) ht (fun k hk h3 => ?_) (fun k hk h3 h4 => by have h3 : cb < k := h3; omega)
  obtain ⟨⟨cells, g1, _⟩, _⟩ := h.kids
  have := g1.lt k hk
  omega
theorem YSt.later (h : YSt w0 w br bg a len cap bs fa fc fns va vc vars next left z ty eb hi fb cb ecs fcs y nm ka kc ks u wr) (hb : Below wr.heap.size wr w') : YSt w0 w br bg a len cap bs fa fc fns va vc vars next left z ty eb hi fb cb ecs fcs y nm ka kc ks u w' := by
  obtain ⟨p, h1, hp⟩ := h.b.g.rd
  exact h.step (TurnR.below hb) (hp.later' hb) h1 (Nat.le_refl _)
theorem YSt.alloc (o : Obj) (h : YSt w0 w br bg a len cap bs fa fc fns va vc vars next left z ty eb hi fb cb ecs fcs y nm ka kc ks u wr) : YSt w0 w br bg a len cap bs fa fc fns va vc vars next left z ty eb hi fb cb ecs fcs y nm ka kc ks u (wr.alloc o) := h.later ((Below.refl _ _).alloc (Nat.le_refl _) _)
theorem YSt.drewN (n : Nat) (h : YSt w0 w br bg a len cap bs fa fc fns va vc vars next left z ty eb hi fb cb ecs fcs y nm ka kc ks u wr) : YSt w0 w br bg a len cap bs fa fc fns va vc vars next left z ty eb hi fb cb ecs fcs y nm ka kc ks u (wr.drewN n) := h.later (below_drewN (Below.refl _ _) n)
theorem YSt.drew (h : YSt w0 w br bg a len cap bs fa fc fns va vc vars next left z ty eb hi fb cb ecs fcs y nm ka kc ks u wr) : YSt w0 w br bg a len cap bs fa fc fns va vc vars next left z ty eb hi fb cb ecs fcs y nm ka kc ks u wr.drew := h.drewN 1
theorem YSt.kcell (h : YSt w0 w br bg a len cap bs fa fc fns va vc vars next left z ty eb hi fb cb ecs fcs y nm ka kc ks u wr) : wr.cell? ⟨cb, 3, none⟩ = some (.slice ka ks.length kc) := cell_of_row _ _ 3 _ _ _ h.crow
/-- Behind an append to the arguments: the call's block is as it was. -/
theorem YSt.after {w9 : World} (h : YSt w0 w br bg a len cap bs fa fc fns va vc vars next left z ty eb hi fb cb ecs fcs y nm ka kc ks u wr) (hg : wr.grownBy w9 (Value.slice ka ks.length kc).ownBlock) : w9.heap[cb]? = some (.cells #[.int .i64 13, .int .i64 0, .string nm, .slice ka ks.length kc] 54 (0, 0)) := by
  have ht := turned_of_grown hg (S := fun k => (Value.slice ka ks.length kc).ownBlock = some k) (fun k hk => hk)
  obtain ⟨⟨cells, g1, _⟩, _⟩ := h.kids
  exact (ht.block _ h.lts.2.2.1 (fun e => by have := g1.lt cb e; omega)).trans h.crow
theorem YSt.push {w9 : World} {cl : List Value} {x : ExprD} {a' : Option Addr} {c' : Nat} {cells : List (List Value)} (h : YSt w0 w br bg a len cap bs fa fc fns va vc vars next left z ty eb hi fb cb ecs fcs y nm ka kc ks u wr) (hrows : RowsK 4 (exprK 3) 54 (fun k => cb < k) (cb + 1) wr ka ks.length kc ks cells)
    (hx : exprK 3 (fun k => cb < k ∧ ¬ (Value.slice ka ks.length kc).ownBlock = some k) wr cl x) (hown : w9.ownsRow (cb + 1) 54 4 (.slice a' (ks.length + 1) c') (ks.length + 1) (cells.flatten ++ cl)) (hg : wr.grownBy w9 (Value.slice ka ks.length kc).ownBlock)
    (hl : (Value.slice a' (ks.length + 1) c').ownBlock = (Value.slice ka ks.length kc).ownBlock ∨ (Value.slice a' (ks.length + 1) c').ownBlock = some wr.heap.size) :
    YSt w0 w br bg a len cap bs fa fc fns va vc vars next left z ty eb hi fb cb ecs fcs y nm a' c' (ks ++ [x]) u (w9.setCell ⟨cb, 3, none⟩ (.slice a' (ks.length + 1) c')) := by
  have ht := turned_of_grown hg (S := fun k => (Value.slice ka ks.length kc).ownBlock = some k) (fun k hk => hk)
  have hlo : ∀ k, (Value.slice ka ks.length kc).ownBlock = some k → cb < k := fun k hk => by have := hrows.1.lt k hk; omega
  have hlt := h.lts
  have hl2 := h.lt
  have hE := h.e.lt
  have hk9 := hrows.push (exprK_stays 3) rfl hx hown hg hl
  have ht2 := turned_store w9 cb 3 (.slice a' (ks.length + 1) c')
  have hb9 := h.b.other ht (fun k hk => by have := hlo k hk; omega)
  have he9 := h.e.turn ht (fun k _ hk => by have := hlo k hk; omega)
  have hf9 := (ht.block _ hlt.2.1 (fun e => by have := hlo _ e; omega)).trans h.frow
  have hc9 := h.after hg
  have hlen : (ks ++ [x]).length = ks.length + 1 := by simp
  refine ⟨hb9.other ht2 (fun k hk => by omega), he9.turn ht2 (fun k _ hk => by omega), (ht2.block _ (Array.getElem?_eq_some_iff.1 hf9).1 (by omega)).trans hf9, ?_, h.lt, ?_⟩
  · rw [hlen]
    exact heap_setCell_same w9 cb 3 _ _ _ hc9
  · rw [hlen]
    refine hk9.turned (exprK_stays 3) ht2 (fun k hk h3 => ?_) (fun k _ h3 h4 => by have h3 : cb < k := h3; omega)
    have := hown.lt k hk
    omega

theorem RowsK.below {α : Type} {s : Nat} {R : InRel α} {e : TypeId} (hR : Stays s R) {S : Nat → Prop} {lo : Nat} {w w' : World} {a : Option Addr} {n c : Nat} {xs : List α} {cells : List (List Value)} (h : RowsK s R e S lo w a n c xs cells) (hb : Below w.heap.size w w') : RowsK s R e S lo w' a n c xs cells :=
  ⟨ownsRow_below h.1 hb, h.2.1, h.2.2.1, fun i cl x hc hx => hR.below hb (h.2.2.2 i cl x hc hx)⟩
theorem YSt.after2 {W w9 : World} (h : YSt w0 w br bg a len cap bs fa fc fns va vc vars next left z ty eb hi fb cb ecs fcs y nm ka kc ks u wr) (hg : W.grownBy w9 (Value.slice ka ks.length kc).ownBlock) (hb : Below wr.heap.size wr W) : w9.heap[cb]? = some (.cells #[.int .i64 13, .int .i64 0, .string nm, .slice ka ks.length kc] 54 (0, 0)) := (h.later hb).after hg
theorem YSt.push2 {W w9 : World} {cl : List Value} {x : ExprD} {a' : Option Addr} {c' : Nat} {cells : List (List Value)} (h : YSt w0 w br bg a len cap bs fa fc fns va vc vars next left z ty eb hi fb cb ecs fcs y nm ka kc ks u wr) (hrows : RowsK 4 (exprK 3) 54 (fun k => cb < k) (cb + 1) wr ka ks.length kc ks cells)
    (hx : exprK 3 (fun k => cb < k ∧ ¬ (Value.slice ka ks.length kc).ownBlock = some k) wr cl x) (hown : w9.ownsRow (cb + 1) 54 4 (.slice a' (ks.length + 1) c') (ks.length + 1) (cells.flatten ++ cl)) (hg : W.grownBy w9 (Value.slice ka ks.length kc).ownBlock)
    (hl : (Value.slice a' (ks.length + 1) c').ownBlock = (Value.slice ka ks.length kc).ownBlock ∨ (Value.slice a' (ks.length + 1) c').ownBlock = some W.heap.size) (hb : Below wr.heap.size wr W) :
    YSt w0 w br bg a len cap bs fa fc fns va vc vars next left z ty eb hi fb cb ecs fcs y nm a' c' (ks ++ [x]) u (w9.setCell ⟨cb, 3, none⟩ (.slice a' (ks.length + 1) c')) :=
  (h.later hb).push (hrows.below (exprK_stays 3) hb) ((exprK_stays 3).below hb hx) hown hg hl

theorem YSt.pos2 {W w9 : World} (h : YSt w0 w br bg a len cap bs fa fc fns va vc vars next left z ty eb hi fb cb ecs fcs y nm ka kc ks u wr) (hg : W.grownBy w9 (Value.slice ka ks.length kc).ownBlock) (hb : Below wr.heap.size wr W) (v : Value) : posOf (w9.setCell ⟨cb, 3, none⟩ v) br = posOf wr br := by
  have ht := turned_of_grown hg (S := fun k => (Value.slice ka ks.length kc).ownBlock = some k) (fun k hk => hk)
  have hl := h.lts
  have hl2 := h.lt
  have hs := hb.size
  obtain ⟨⟨cells, g1, _⟩, _⟩ := h.kids
  rw [posOf_set (by omega), posOf_turned ht (by omega) (fun e => by have := g1.lt br e; omega), posOf_below hb (by omega)]
set_option maxRecDepth 100000 in
set_option maxHeartbeats 8000000 in
theorem gexpr_any (hlen : len ≤ 2000) (n : Nat) (hn3 : n ≤ 3) (u : Nat) (w : World) (h : GSt w0 br bg a len cap bs fa fc fns u va vc vars next left w) (hu : u + 300 ≤ 990000) :
    Calls Tryd.prog 53 #[.pointer (some ⟨bg, 0, none⟩), .int .i64 (n : Int)] w fun e w' => ∃ cs x, e = .returned (.agg (List.toArray cs)) ∧ exprK 8 (fun k => w.heap.size ≤ k) w' cs x ∧ GSt w0 br bg a len cap bs fa fc fns (u + 300) va vc vars next left w' ∧ Turn2 br bg w w' ∧ gexprF bs fns vars n (posOf w br) = (x, posOf w' br) := by
  have HU := Lib.hid hu
  have HPW0 := Lib.hid (show posOf (w.alloc (.cells #[.int .i64 0, .int .i64 0, .string ⟨#[]⟩, .slice none 0 0] 54)) br = posOf w br from posOf_below ((Below.refl _ _).alloc (Nat.le_refl _) _) h.lts.1)
  have HLT := Lib.hid h.lts
  have HB := Lib.hid (BSt.start [.int .i64 0, .int .i64 0, .string ⟨#[]⟩, .slice none 0 0] 54 h)
  have HN3 := Lib.hid hn3
  have HVL := Lib.hid (show vars.length ≤ 1000000 by have := h.bnd; omega)
  clear h hu hn3
  obtain ⟨dq, hdq⟩ : ∃ d : Int, d = n := ⟨_, rfl⟩
  rw [← hdq]
  have HDQ := Lib.hid hdq
  clear hdq
  go_enter Tryd.func53, Tryd.ntmps53
  go_upto_region 1 with fail
  change Hid (BSt w0 w br bg a len cap bs fa fc fns va vc vars next left [.int .i64 0, .int .i64 0, .string ⟨#[]⟩, .slice none 0 0] 54 u (w.alloc (.cells #[.int .i64 0, .int .i64 0, .string ⟨#[]⟩, .slice none 0 0] 54))) at HB
  generalize w.alloc (.cells #[.int .i64 0, .int .i64 0, .string ⟨#[]⟩, .slice none 0 0] 54) = wr at HB HPW0 ⊢
  go_cut [5] (fun v wx => ∃ (eb : Nat) (y : ExprD) (ya : Option Addr) (yc : Nat), v = .pointer (some ⟨eb, 0, none⟩) ∧ Hid (BSt w0 w br bg a len cap bs fa fc fns va vc vars next left [.int .i64 0, .int .i64 0, .string ⟨#[]⟩, .slice none 0 0] 54 (u + 100) wx ∧ w.heap.size < eb ∧ wx.heap[eb]? = some (.cells (List.toArray [.int .i64 y.op, .int .i64 y.n, .string y.name, .slice ya y.kids.length yc]) 54 (0, 0)) ∧ exprK 4 (fun b => w.heap.size < b ∧ b ≠ eb) wx [.int .i64 y.op, .int .i64 y.n, .string y.name, .slice ya y.kids.length yc] y ∧ exprF bs vars n (posOf wr br) = (y, posOf wx br)))
  case first =>
    as_aux_lemma =>
      have HL := Lib.hid (show ∀ W, BSt w0 w br bg a len cap bs fa fc fns va vc vars next left [.int .i64 0, .int .i64 0, .string ⟨#[]⟩, .slice none 0 0] 54 u W → Calls Tryd.prog 43 #[.pointer (some ⟨br, 0, none⟩), .slice va vars.length vc, .int .i64 dq] W fun e W' => ∃ y ya yc, e = .returned (.agg (List.toArray [.int .i64 y.op, .int .i64 y.n, .string y.name, .slice ya y.kids.length yc])) ∧ Hid (BSt w0 w br bg a len cap bs fa fc fns va vc vars next left [.int .i64 0, .int .i64 0, .string ⟨#[]⟩, .slice none 0 0] 54 (u + 100) W' ∧ exprK 4 (fun b => W.heap.size ≤ b) W' [.int .i64 y.op, .int .i64 y.n, .string y.name, .slice ya y.kids.length yc] y ∧ TurnR br W W' ∧ exprF bs vars n (posOf W br) = (y, posOf W' br)) from fun W hW => by
        obtain ⟨p, hp, hrd⟩ := hW.g.rd
        have hc : costE n ≤ 60 := by
          have h3 := HN3.out
          have : n = 0 ∨ n = 1 ∨ n = 2 ∨ n = 3 := by omega
          rcases this with rfl | rfl | rfl | rfl <;> decide
        rw [HDQ.out]
        refine (l2Expr_any w0 br a len cap bs hlen va vars.length vc vars (listK_sizes hW.g.vlist) HVL.out n W p (by have := HN3.out; omega) hrd (by have := HU.out; omega) hW.g.strs).mono ?_
        rintro e W' ⟨cs, y, q, rfl, hrd', hq, ht, hy, hl, -, hF⟩
        obtain ⟨ya, yc, rfl⟩ := exprP_form hy
        exact ⟨y, ya, yc, rfl, Lib.hid ⟨hW.step ht hrd' (by omega) (by omega), exprK_le (by have := HN3.out; omega) ⟨hy, hl⟩, ht, by rw [hrd.pos, hrd'.pos]; exact hF⟩⟩)
      have HA := Lib.hid (show ∀ W, Below (wr.alloc (.cells #[.int .i64 0, .int .i64 0, .string ⟨#[]⟩, .slice none 0 0] 54)).heap.size (wr.alloc (.cells #[.int .i64 0, .int .i64 0, .string ⟨#[]⟩, .slice none 0 0] 54)) W → Calls Tryd.prog 43 #[.pointer (some ⟨br, 0, none⟩), .slice va vars.length vc, .int .i64 dq] W fun e W' => ∃ y ya yc, e = .returned (.agg (List.toArray [.int .i64 y.op, .int .i64 y.n, .string y.name, .slice ya y.kids.length yc])) ∧ Hid (BSt w0 w br bg a len cap bs fa fc fns va vc vars next left [.int .i64 0, .int .i64 0, .string ⟨#[]⟩, .slice none 0 0] 54 (u + 100) W' ∧ exprK 4 (fun b => wr.heap.size < b) W' [.int .i64 y.op, .int .i64 y.n, .string y.name, .slice ya y.kids.length yc] y ∧ W'.heap[wr.heap.size]? = some (.cells #[.int .i64 0, .int .i64 0, .string ⟨#[]⟩, .slice none 0 0] 54 (0, 0)) ∧ exprF bs vars n (posOf wr br) = (y, posOf W' br)) from fun W hW => by
        have hW1 : BSt w0 w br bg a len cap bs fa fc fns va vc vars next left [.int .i64 0, .int .i64 0, .string ⟨#[]⟩, .slice none 0 0] 54 u W := (HB.out.alloc _).later hW
        have hr := (hW.block wr.heap.size (by simp)).trans (heap_alloc_new wr (.cells #[.int .i64 0, .int .i64 0, .string ⟨#[]⟩, .slice none 0 0] 54))
        refine (HL.out W hW1).mono ?_
        rintro e W' ⟨y, ya, yc, rfl, hx⟩
        have hsz := hW.size
        rw [World.size_alloc] at hsz
        exact ⟨y, ya, yc, rfl, Lib.hid ⟨hx.out.1, (exprK_stays 4).mono (fun b _ h => by omega) hx.out.2.1, (hx.out.2.2.1.block (by omega) (by have := HB.out.lt; have := HB.out.size; omega)).trans hr, by rw [← hx.out.2.2.2, posOf_below hW (by have := HB.out.g.lts.1; rw [World.size_alloc]; omega), posOf_below ((Below.refl _ _).alloc (Nat.le_refl _) _) HB.out.g.lts.1]⟩⟩)
      have HV0 := Lib.hid (fun nq => HL.out (wr.drewN nq) (HB.out.drewN nq))
      have HA0 := Lib.hid (fun nq => HA.out ((wr.alloc (.cells #[.int .i64 0, .int .i64 0, .string ⟨#[]⟩, .slice none 0 0] 54)).drewN nq) (below_drewN (Below.refl _ _) nq))
      have HA2 := Lib.hid (fun nq nr => HA.out (((wr.drewN nq).alloc (.cells #[.int .i64 0, .int .i64 0, .string ⟨#[]⟩, .slice none 0 0] 54)).drewN nr) ⟨rfl, rfl, rfl, Nat.le_refl _, fun _ _ => rfl⟩)
      have c0 := HB.out.g.c0
      have c2 := HB.out.g.c2
      have a0 := (HB.out.g.alloc (.cells #[.int .i64 0, .int .i64 0, .string ⟨#[]⟩, .slice none 0 0] 54)).c0
      have a2 := (HB.out.g.alloc (.cells #[.int .i64 0, .int .i64 0, .string ⟨#[]⟩, .slice none 0 0] 54)).c2
      have HSA := Lib.hid (show ∀ (w8 : World) (y : ExprD) (ya : Option Addr) (yc : Nat), Hid (BSt w0 w br bg a len cap bs fa fc fns va vc vars next left [.int .i64 0, .int .i64 0, .string ⟨#[]⟩, .slice none 0 0] 54 (u + 100) w8 ∧ exprK 4 (fun b => wr.heap.size < b) w8 [.int .i64 y.op, .int .i64 y.n, .string y.name, .slice ya y.kids.length yc] y ∧ w8.heap[wr.heap.size]? = some (.cells #[.int .i64 0, .int .i64 0, .string ⟨#[]⟩, .slice none 0 0] 54 (0, 0)) ∧ exprF bs vars n (posOf wr br) = (y, posOf w8 br)) → BSt w0 w br bg a len cap bs fa fc fns va vc vars next left [.int .i64 0, .int .i64 0, .string ⟨#[]⟩, .slice none 0 0] 54 (u + 100) (w8.setCells wr.heap.size 0 [.int .i64 y.op, .int .i64 y.n, .string y.name, .slice ya y.kids.length yc]) ∧ w.heap.size < wr.heap.size ∧ (w8.setCells wr.heap.size 0 [.int .i64 y.op, .int .i64 y.n, .string y.name, .slice ya y.kids.length yc]).heap[wr.heap.size]? = some (.cells (List.toArray [.int .i64 y.op, .int .i64 y.n, .string y.name, .slice ya y.kids.length yc]) 54 (0, 0)) ∧ exprK 4 (fun b => w.heap.size < b ∧ b ≠ wr.heap.size) (w8.setCells wr.heap.size 0 [.int .i64 y.op, .int .i64 y.n, .string y.name, .slice ya y.kids.length yc]) [.int .i64 y.op, .int .i64 y.n, .string y.name, .slice ya y.kids.length yc] y ∧ exprF bs vars n (posOf wr br) = (y, posOf (w8.setCells wr.heap.size 0 [.int .i64 y.op, .int .i64 y.n, .string y.name, .slice ya y.kids.length yc]) br) from fun w8 y ya yc hx8 => by
        have ht := turned_setCells (g := wr.heap.size) [.int .i64 y.op, .int .i64 y.n, .string y.name, .slice ya y.kids.length yc] w8 0
        refine ⟨hx8.out.1.other ht (fun k hk => by have := HB.out.size; omega), HB.out.size, ?_, (exprK_stays 4).turned ht (fun k _ h1 h2 => h1.2 h2) ((exprK_stays 4).mono (fun k _ h1 => by have := HB.out.size; omega) hx8.out.2.1), by rw [posOf_sets (by have := HB.out.g.lts.1; omega)]; exact hx8.out.2.2.2⟩
        have := heap_setCells_mid (A := []) (B := [.int .i64 0, .int .i64 0, .string ⟨#[]⟩, .slice none 0 0]) (C := []) (vs := [.int .i64 y.op, .int .i64 y.n, .string y.name, .slice ya y.kids.length yc]) (o := 0) rfl rfl (by simpa using hx8.out.2.2.1)
        simpa using this)
      have HSB := Lib.hid (show ∀ (w8 : World) (y : ExprD) (ya : Option Addr) (yc : Nat), BSt w0 w br bg a len cap bs fa fc fns va vc vars next left [.int .i64 0, .int .i64 0, .string ⟨#[]⟩, .slice none 0 0] 54 (u + 100) w8 → exprK 4 (fun b => wr.heap.size ≤ b) w8 [.int .i64 y.op, .int .i64 y.n, .string y.name, .slice ya y.kids.length yc] y → exprF bs vars n (posOf wr br) = (y, posOf w8 br) → BSt w0 w br bg a len cap bs fa fc fns va vc vars next left [.int .i64 0, .int .i64 0, .string ⟨#[]⟩, .slice none 0 0] 54 (u + 100) (w8.alloc (.cells (List.toArray [.int .i64 y.op, .int .i64 y.n, .string y.name, .slice ya y.kids.length yc]) 54)) ∧ w.heap.size < w8.heap.size ∧ (w8.alloc (.cells (List.toArray [.int .i64 y.op, .int .i64 y.n, .string y.name, .slice ya y.kids.length yc]) 54)).heap[w8.heap.size]? = some (.cells (List.toArray [.int .i64 y.op, .int .i64 y.n, .string y.name, .slice ya y.kids.length yc]) 54 (0, 0)) ∧ exprK 4 (fun b => w.heap.size < b ∧ b ≠ w8.heap.size) (w8.alloc (.cells (List.toArray [.int .i64 y.op, .int .i64 y.n, .string y.name, .slice ya y.kids.length yc]) 54)) [.int .i64 y.op, .int .i64 y.n, .string y.name, .slice ya y.kids.length yc] y ∧ exprF bs vars n (posOf wr br) = (y, posOf (w8.alloc (.cells (List.toArray [.int .i64 y.op, .int .i64 y.n, .string y.name, .slice ya y.kids.length yc]) 54)) br) from fun w8 y ya yc h1 h2 h3 => by
        have hba : Below w8.heap.size w8 (w8.alloc (.cells (List.toArray [.int .i64 y.op, .int .i64 y.n, .string y.name, .slice ya y.kids.length yc]) 54)) := (Below.refl _ _).alloc (Nat.le_refl _) _
        have hsz := HB.out.size
        exact ⟨h1.alloc _, h1.size, heap_alloc_new w8 _, (exprK_stays 4).below hba ((exprK_stays 4).mono (fun k hk h1 => by have h1 : wr.heap.size ≤ k := h1; omega) h2), by rw [posOf_below hba h1.g.lts.1]; exact h3⟩)
      go_region_held3 (fun W => W.cell? ⟨bg, 0, none⟩ = some (.pointer (some ⟨br, 0, none⟩)) ∧ W.cell? ⟨bg, 2, none⟩ = some (.slice va vars.length vc)) (first | go_keep | exact ⟨hx8.out.1.g.c0, hx8.out.1.g.c2⟩ | exact ⟨HY.out.1.g.c0, HY.out.1.g.c2⟩) (first | (go_at_call 43; (first | refine (HA0.out _).mono ?_ | refine (HA2.out _ _).mono ?_); rintro e w8 ⟨y, ya, yc, rfl, hx8⟩; (have HY := Lib.hid (show BSt w0 w br bg a len cap bs fa fc fns va vc vars next left [.int .i64 0, .int .i64 0, .string ⟨#[]⟩, .slice none 0 0] 54 (u + 100) (w8.setCells wr.heap.size 0 [.int .i64 y.op, .int .i64 y.n, .string y.name, .slice ya y.kids.length yc]) ∧ w.heap.size < wr.heap.size ∧ (w8.setCells wr.heap.size 0 [.int .i64 y.op, .int .i64 y.n, .string y.name, .slice ya y.kids.length yc]).heap[wr.heap.size]? = some (.cells (List.toArray [.int .i64 y.op, .int .i64 y.n, .string y.name, .slice ya y.kids.length yc]) 54 (0, 0)) ∧ exprK 4 (fun b => w.heap.size < b ∧ b ≠ wr.heap.size) (w8.setCells wr.heap.size 0 [.int .i64 y.op, .int .i64 y.n, .string y.name, .slice ya y.kids.length yc]) [.int .i64 y.op, .int .i64 y.n, .string y.name, .slice ya y.kids.length yc] y ∧ exprF bs vars n (posOf wr br) = (y, posOf (w8.setCells wr.heap.size 0 [.int .i64 y.op, .int .i64 y.n, .string y.name, .slice ya y.kids.length yc]) br) from HSA.out w8 y ya yc hx8)); (rw [setCells4] at HY); (have hr8 := hx8.out.2.2.1); (have z0 := cell_of_row _ _ 0 _ _ _ hr8); (have z1 := cell_of_row _ _ 1 _ _ _ hr8); (have z2 := cell_of_row _ _ 2 _ _ _ hr8); (have z3 := cell_of_row _ _ 3 _ _ _ hr8); (simp only [List.getElem?_toArray, List.getElem?_cons_zero, List.getElem?_cons_succ] at z0 z1 z2 z3); (have g0 := frozen_of_row _ _ 0 _ _ hr8); (have g1 := frozen_of_row _ _ 1 _ _ hr8); (have g2 := frozen_of_row _ _ 2 _ _ hr8); (have g3 := frozen_of_row _ _ 3 _ _ hr8)) | (go_at_call 43; refine (HV0.out _).mono ?_; rintro e w8 ⟨y, ya, yc, rfl, hx8⟩; (have HY := Lib.hid (show BSt w0 w br bg a len cap bs fa fc fns va vc vars next left [.int .i64 0, .int .i64 0, .string ⟨#[]⟩, .slice none 0 0] 54 (u + 100) (w8.alloc (.cells (List.toArray [.int .i64 y.op, .int .i64 y.n, .string y.name, .slice ya y.kids.length yc]) 54)) ∧ w.heap.size < w8.heap.size ∧ (w8.alloc (.cells (List.toArray [.int .i64 y.op, .int .i64 y.n, .string y.name, .slice ya y.kids.length yc]) 54)).heap[w8.heap.size]? = some (.cells (List.toArray [.int .i64 y.op, .int .i64 y.n, .string y.name, .slice ya y.kids.length yc]) 54 (0, 0)) ∧ exprK 4 (fun b => w.heap.size < b ∧ b ≠ w8.heap.size) (w8.alloc (.cells (List.toArray [.int .i64 y.op, .int .i64 y.n, .string y.name, .slice ya y.kids.length yc]) 54)) [.int .i64 y.op, .int .i64 y.n, .string y.name, .slice ya y.kids.length yc] y ∧ exprF bs vars n (posOf wr br) = (y, posOf (w8.alloc (.cells (List.toArray [.int .i64 y.op, .int .i64 y.n, .string y.name, .slice ya y.kids.length yc]) 54)) br) from HSB.out w8 y ya yc hx8.out.1 hx8.out.2.1 hx8.out.2.2.2))))
      all_goals go_wp2_with fail
      all_goals go_meet
      all_goals exact ⟨_, y, ya, yc, rfl, HY⟩
  case rest =>
  obtain ⟨eb, y, ya, yc, rfl, HX0⟩ := hcut
  have HF1 := Lib.hid (show exprF bs vars n (posOf w br) = (y, posOf wc br) by rw [← HPW0.out]; exact HX0.out.2.2.2.2)
  have HX := Lib.hid (And.intro HX0.out.1 (And.intro HX0.out.2.1 (And.intro HX0.out.2.2.1 HX0.out.2.2.2.1)))
  clear HX0
  have hfl := HX.out.1.g.bnd
  by_cases hf0 : fns.length = 0
  · obtain ⟨wr', hwr⟩ : ∃ x, x = wc := ⟨_, rfl⟩
    have hfz : (fns.length : Int) = 0 := by omega
    have c1 := HX.out.1.g.c1
    rw [hf0] at c1
    subst hwr
    have HFZ := Lib.hid (show gexprF bs fns vars n (posOf w br) = (y, posOf (wr'.setCells w.heap.size 0 [.int .i64 y.op, .int .i64 y.n, .string y.name, .slice ya y.kids.length yc]) br) by rw [posOf_sets (by have := HLT.out.1; omega)]; exact gexprF_none HF1.out hf0)
    have z0 := cell_of_row _ _ 0 _ _ _ HX.out.1.rrow
    have z1 := cell_of_row _ _ 1 _ _ _ HX.out.1.rrow
    have z2 := cell_of_row _ _ 2 _ _ _ HX.out.1.rrow
    have z3 := cell_of_row _ _ 3 _ _ _ HX.out.1.rrow
    simp only [List.getElem?_toArray, List.getElem?_cons_zero, List.getElem?_cons_succ] at z0 z1 z2 z3
    have f0 := frozen_of_row _ _ 0 _ _ HX.out.1.rrow
    have f1 := frozen_of_row _ _ 1 _ _ HX.out.1.rrow
    have f2 := frozen_of_row _ _ 2 _ _ HX.out.1.rrow
    have f3 := frozen_of_row _ _ 3 _ _ HX.out.1.rrow
    have e0 := cell_of_row _ _ 0 _ _ _ (HX.out.2.2.1)
    have e1 := cell_of_row _ _ 1 _ _ _ (HX.out.2.2.1)
    have e2 := cell_of_row _ _ 2 _ _ _ (HX.out.2.2.1)
    have e3 := cell_of_row _ _ 3 _ _ _ (HX.out.2.2.1)
    simp only [List.getElem?_toArray, List.getElem?_cons_zero, List.getElem?_cons_succ] at e0 e1 e2 e3
    have HZ := Lib.hid (show (wr'.setCells w.heap.size 0 [.int .i64 y.op, .int .i64 y.n, .string y.name, .slice ya y.kids.length yc]).heap[w.heap.size]? = some (.cells (List.toArray [.int .i64 y.op, .int .i64 y.n, .string y.name, .slice ya y.kids.length yc]) 54 (0, 0)) ∧ exprK 8 (fun k => w.heap.size ≤ k) (wr'.setCells w.heap.size 0 [.int .i64 y.op, .int .i64 y.n, .string y.name, .slice ya y.kids.length yc]) [.int .i64 y.op, .int .i64 y.n, .string y.name, .slice ya y.kids.length yc] y ∧ GSt w0 br bg a len cap bs fa fc fns (u + 300) va vc vars next left (wr'.setCells w.heap.size 0 [.int .i64 y.op, .int .i64 y.n, .string y.name, .slice ya y.kids.length yc]) ∧ Turn2 br bg w (wr'.setCells w.heap.size 0 [.int .i64 y.op, .int .i64 y.n, .string y.name, .slice ya y.kids.length yc]) by
      obtain ⟨k1, k2, k3, k4⟩ := HX.out.1.put (cs := [.int .i64 y.op, .int .i64 y.n, .string y.name, .slice ya y.kids.length yc]) rfl
      exact ⟨k1, (exprK_stays 8).mono (fun k _ h => Nat.le_of_lt h) ((exprK_stays 8).turned k2 (fun k _ h1 h2 => by have h1 : w.heap.size < k := h1; omega) (exprK_le (by omega : 4 ≤ 8) ((exprK_stays 4).mono (fun k _ h => h.1) HX.out.2.2.2))), k3.more (by omega), k4⟩)
    rw [setCells4] at HZ HFZ
    go_wp2
    refine bodyPost_ret (results_cell_row rfl _ _ w.heap.size 54 #[.int .i64 y.op, .int .i64 y.n, .string y.name, .slice ya y.kids.length yc] (0, 0) _ rfl ?_ Tryd.underlying54 rfl (by kernel_rfl)) rfl ?_
    · exact HZ.out.1
    exact ⟨_, _, rfl, HZ.out.2.1, HZ.out.2.2.1, HZ.out.2.2.2, HFZ.out⟩
  · have hfz : ((fns.length : Int) == 0) = false := by rw [beq_eq_false_iff_ne]; omega
    obtain ⟨p, hp, hrd⟩ := HX.out.1.g.rd
    have HP := Lib.hid hp
    have c0 := HX.out.1.g.c0
    have c1 := HX.out.1.g.c1
    go_wp2_with fail
    refine (pick_fun w0 _ br a len cap bs p 4 hrd (by omega) hlen (by have := HP.out; have := HU.out; omega)).mono ?_
    rintro e wr' ⟨v, _, _, rfl, hrd2, hg2, hV⟩
    have HV := Lib.hid (show pickF bs 4 (posOf wc br) = v ∧ posOf wr' br = posOf wc br + 1 by rw [hrd.pos, hrd2.pos]; exact ⟨hV, rfl⟩)
    clear hV
    have HX2 := Lib.hid (show BSt w0 w br bg a len cap bs fa fc fns va vc vars next left [.int .i64 0, .int .i64 0, .string ⟨#[]⟩, .slice none 0 0] 54 (u + 101) wr' ∧ w.heap.size < eb ∧ wr'.heap[eb]? = some (.cells (List.toArray [.int .i64 y.op, .int .i64 y.n, .string y.name, .slice ya y.kids.length yc]) 54 (0, 0)) ∧ exprK 4 (fun b => w.heap.size < b ∧ b ≠ eb) wr' [.int .i64 y.op, .int .i64 y.n, .string y.name, .slice ya y.kids.length yc] y from
      ⟨HX.out.1.step (TurnR.grown hg2) hrd2 (by have := HP.out; omega) (by omega), HX.out.2.1, ((TurnR.grown hg2).block (Array.getElem?_eq_some_iff.1 HX.out.2.2.1).1 (by have := HX.out.1.lt; have := HX.out.2.1; omega)).trans HX.out.2.2.1,
       (exprK_stays 4).turned (TurnR.grown hg2) (fun k hk h1 h2 => by have := HX.out.1.lt; omega) HX.out.2.2.2⟩)
    clear hrd hp hrd2 hg2 c0 c1 HX
    by_cases hv : 0 < v
    · have hv2 : decide (0 < v) = true := decide_eq_true hv
      have HFZ := Lib.hid (show gexprF bs fns vars n (posOf w br) = (y, posOf (wr'.setCells w.heap.size 0 [.int .i64 y.op, .int .i64 y.n, .string y.name, .slice ya y.kids.length yc]) br) by rw [posOf_sets (by have := HLT.out.1; omega), HV.out.2]; exact gexprF_low HF1.out hf0 HV.out.1 hv)
      have z0 := cell_of_row _ _ 0 _ _ _ HX2.out.1.rrow
      have z1 := cell_of_row _ _ 1 _ _ _ HX2.out.1.rrow
      have z2 := cell_of_row _ _ 2 _ _ _ HX2.out.1.rrow
      have z3 := cell_of_row _ _ 3 _ _ _ HX2.out.1.rrow
      simp only [List.getElem?_toArray, List.getElem?_cons_zero, List.getElem?_cons_succ] at z0 z1 z2 z3
      have f0 := frozen_of_row _ _ 0 _ _ HX2.out.1.rrow
      have f1 := frozen_of_row _ _ 1 _ _ HX2.out.1.rrow
      have f2 := frozen_of_row _ _ 2 _ _ HX2.out.1.rrow
      have f3 := frozen_of_row _ _ 3 _ _ HX2.out.1.rrow
      have e0 := cell_of_row _ _ 0 _ _ _ (HX2.out.2.2.1)
      have e1 := cell_of_row _ _ 1 _ _ _ (HX2.out.2.2.1)
      have e2 := cell_of_row _ _ 2 _ _ _ (HX2.out.2.2.1)
      have e3 := cell_of_row _ _ 3 _ _ _ (HX2.out.2.2.1)
      simp only [List.getElem?_toArray, List.getElem?_cons_zero, List.getElem?_cons_succ] at e0 e1 e2 e3
      have HZ := Lib.hid (show (wr'.setCells w.heap.size 0 [.int .i64 y.op, .int .i64 y.n, .string y.name, .slice ya y.kids.length yc]).heap[w.heap.size]? = some (.cells (List.toArray [.int .i64 y.op, .int .i64 y.n, .string y.name, .slice ya y.kids.length yc]) 54 (0, 0)) ∧ exprK 8 (fun k => w.heap.size ≤ k) (wr'.setCells w.heap.size 0 [.int .i64 y.op, .int .i64 y.n, .string y.name, .slice ya y.kids.length yc]) [.int .i64 y.op, .int .i64 y.n, .string y.name, .slice ya y.kids.length yc] y ∧ GSt w0 br bg a len cap bs fa fc fns (u + 300) va vc vars next left (wr'.setCells w.heap.size 0 [.int .i64 y.op, .int .i64 y.n, .string y.name, .slice ya y.kids.length yc]) ∧ Turn2 br bg w (wr'.setCells w.heap.size 0 [.int .i64 y.op, .int .i64 y.n, .string y.name, .slice ya y.kids.length yc]) by
        obtain ⟨k1, k2, k3, k4⟩ := HX2.out.1.put (cs := [.int .i64 y.op, .int .i64 y.n, .string y.name, .slice ya y.kids.length yc]) rfl
        exact ⟨k1, (exprK_stays 8).mono (fun k _ h => Nat.le_of_lt h) ((exprK_stays 8).turned k2 (fun k _ h1 h2 => by have h1 : w.heap.size < k := h1; omega) (exprK_le (by omega : 4 ≤ 8) ((exprK_stays 4).mono (fun k _ h => h.1) HX2.out.2.2.2))), k3.more (by omega), k4⟩)
      rw [setCells4] at HZ HFZ
      go_wp2
      refine bodyPost_ret (results_cell_row rfl _ _ w.heap.size 54 #[.int .i64 y.op, .int .i64 y.n, .string y.name, .slice ya y.kids.length yc] (0, 0) _ rfl ?_ Tryd.underlying54 rfl (by kernel_rfl)) rfl ?_
      · exact HZ.out.1
      exact ⟨_, _, rfl, HZ.out.2.1, HZ.out.2.2.1, HZ.out.2.2.2, HFZ.out⟩
    · have hv2 : decide (0 < v) = false := decide_eq_false hv
      obtain ⟨fz, foff, hfa, -, -⟩ := HX2.out.1.flow.blk (fun h => hf0 (by rw [h]; rfl))
      subst hfa
      have HE2 := Lib.hid (show EBlk w eb wr'.heap.size [.int .i64 y.op, .int .i64 y.n, .string y.name, .slice ya y.kids.length yc] y wr' from ⟨⟨HX2.out.2.1, (Array.getElem?_eq_some_iff.1 HX2.out.2.2.1).1, Nat.le_refl _⟩, HX2.out.2.2.1, (exprK_stays 4).mono (fun k hk h => ⟨h.1, h.2, hk⟩) HX2.out.2.2.2⟩)
      have HB2 := Lib.hid HX2.out.1
      have hfp : 0 < fns.length := by omega
      have hfp2 : fns.length ≤ 3 := hfl.2.1
      have HNV := Lib.hid hv
      clear HX2 hv hfz
      go_upto_region 4 with fail
      obtain ⟨hi, hhi⟩ : ∃ n, n = wr'.heap.size := ⟨_, rfl⟩
      rw [← hhi] at HE2
      have HHI := Lib.hid hhi
      clear hhi
      go_cut [6] (fun v wx => ∃ (fb : Nat) (x : FnD) (pa : Option Addr) (pc : Nat) (ba : Option Addr) (bc : Nat), v = .pointer (some ⟨fb, 0, none⟩) ∧ Hid (BSt w0 w br bg a len cap bs (some ⟨fz, foff, none⟩) fc fns va vc vars next left [.int .i64 0, .int .i64 0, .string ⟨#[]⟩, .slice none 0 0] 54 (u + 102) wx ∧ EBlk w eb hi [.int .i64 y.op, .int .i64 y.n, .string y.name, .slice ya y.kids.length yc] y wx ∧ hi ≤ fb ∧ wx.heap[fb]? = some (.cells (List.toArray [.string x.name, .slice pa x.params.length pc, .slice ba x.body.length bc]) 32 (0, 0)) ∧ x.params.length ≤ 3 ∧ x.name.size ≤ maxLen ∧ (∃ j : Nat, pickF bs (fns.length : Int) (posOf wr' br) = (j : Int) ∧ fns[j]? = some x) ∧ posOf wx br = posOf wr' br + 1))
      case first =>
        as_aux_lemma =>
          have HFB := Lib.hid (show fz ≠ br ∧ fz < w.heap.size from by
            obtain ⟨b', off', h1, h2, h3⟩ := HB2.out.flow.blk (fun h => hf0 (by rw [h]; rfl))
            cases h1
            exact ⟨h2.1, h2.2.2⟩)
          have HL := Lib.hid (show ∀ W, BSt w0 w br bg a len cap bs (some ⟨fz, foff, none⟩) fc fns va vc vars next left [.int .i64 0, .int .i64 0, .string ⟨#[]⟩, .slice none 0 0] 54 (u + 101) W → EBlk w eb hi [.int .i64 y.op, .int .i64 y.n, .string y.name, .slice ya y.kids.length yc] y W → SameB fz wr' W → Calls Tryd.prog 25 #[.pointer (some ⟨br, 0, none⟩), .int .i64 (fns.length : Int)] W fun e W' => ∃ (j : Nat) (x : FnD) (pa : Option Addr) (pc : Nat) (ba : Option Addr) (bc : Nat), e = .returned (.int .i64 ((j : Nat) : Int)) ∧ Hid (BSt w0 w br bg a len cap bs (some ⟨fz, foff, none⟩) fc fns va vc vars next left [.int .i64 0, .int .i64 0, .string ⟨#[]⟩, .slice none 0 0] 54 (u + 102) W' ∧ EBlk w eb hi [.int .i64 y.op, .int .i64 y.n, .string y.name, .slice ya y.kids.length yc] y W' ∧ x.params.length ≤ 3 ∧ x.name.size ≤ maxLen ∧ TurnR br W W' ∧ (posOf W br = posOf wr' br → (∃ j : Nat, pickF bs (fns.length : Int) (posOf wr' br) = (j : Int) ∧ fns[j]? = some x) ∧ posOf W' br = posOf wr' br + 1)) ∧
              wr'.cell? ⟨fz, foff + j * 3, none⟩ = some (.string x.name) ∧ wr'.cell? ⟨fz, foff + j * 3 + 1, none⟩ = some (.slice pa x.params.length pc) ∧ wr'.cell? ⟨fz, foff + j * 3 + 2, none⟩ = some (.slice ba x.body.length bc) ∧ (j : Int) < (fns.length : Int) ∧ Hid (SameB fz wr' W') from fun W hW hE hC => by
            obtain ⟨p, hp, hrd⟩ := hW.g.rd
            refine (pick_fun w0 W br a len cap bs p fns.length hrd (by omega) hlen (by have := HU.out; omega)).mono ?_
            rintro e W' ⟨v, hv0, hv1, rfl, hrd', hg', hVj⟩
            obtain ⟨j, rfl⟩ := Int.eq_ofNat_of_zero_le hv0
            have hB' := hW.step (u' := u + 102) (TurnR.grown hg') hrd' (by omega) (by omega)
            obtain ⟨b', off', x, pa, pc, ba, bc, hab, hx, hF, e0, e1, e2⟩ := fn_place HB2.out.flow (show j < fns.length by omega)
            cases hab
            obtain ⟨_, _, _, _, _, hb, _⟩ := hF
            have hfz1 := HFB.out.2
            have hfz2 := hW.size
            have hblk : W'.heap[fz]? = W.heap[fz]? := (TurnR.grown hg').block (b := fz) (by omega) HFB.out.1
            exact ⟨j, x, pa, pc, ba, bc, rfl, Lib.hid ⟨hB', hE.step (TurnR.grown hg') hW.lt.1, hB'.g.bnd.2.2.1 x (List.mem_of_getElem? hx), hb.1, TurnR.grown hg', fun hpw => ⟨⟨j, by rw [← hpw, hrd.pos]; exact hVj, hx⟩, by rw [← hpw, hrd.pos, hrd'.pos]⟩⟩, e0, e1, e2, by omega, Lib.hid ⟨hblk.trans hC.blk, hC.lt.1, Nat.le_trans hC.lt.2 (Turned.size (S := fun k => k = br ∨ W.heap.size ≤ k) (TurnR.grown hg'))⟩⟩)
          have HHA := Lib.hid (show ∀ W, Below (wr'.alloc (.cells #[.string ⟨#[]⟩, .slice none 0 0, .slice none 0 0] 32)).heap.size (wr'.alloc (.cells #[.string ⟨#[]⟩, .slice none 0 0, .slice none 0 0] 32)) W → Calls Tryd.prog 25 #[.pointer (some ⟨br, 0, none⟩), .int .i64 (fns.length : Int)] W fun e W' => ∃ (j : Nat) (x : FnD) (pa : Option Addr) (pc : Nat) (ba : Option Addr) (bc : Nat), e = .returned (.int .i64 ((j : Nat) : Int)) ∧ Hid (BSt w0 w br bg a len cap bs (some ⟨fz, foff, none⟩) fc fns va vc vars next left [.int .i64 0, .int .i64 0, .string ⟨#[]⟩, .slice none 0 0] 54 (u + 102) W' ∧ EBlk w eb hi [.int .i64 y.op, .int .i64 y.n, .string y.name, .slice ya y.kids.length yc] y W' ∧ x.params.length ≤ 3 ∧ x.name.size ≤ maxLen ∧ W'.heap[wr'.heap.size]? = some (.cells #[.string ⟨#[]⟩, .slice none 0 0, .slice none 0 0] 32 (0, 0)) ∧ (∃ j : Nat, pickF bs (fns.length : Int) (posOf wr' br) = (j : Int) ∧ fns[j]? = some x) ∧ posOf W' br = posOf wr' br + 1) ∧
              wr'.cell? ⟨fz, foff + j * 3, none⟩ = some (.string x.name) ∧ wr'.cell? ⟨fz, foff + j * 3 + 1, none⟩ = some (.slice pa x.params.length pc) ∧ wr'.cell? ⟨fz, foff + j * 3 + 2, none⟩ = some (.slice ba x.body.length bc) ∧ (j : Int) < (fns.length : Int) ∧ Hid (SameB fz wr' W') from fun W hW => by
            have hba : Below wr'.heap.size wr' (wr'.alloc (.cells #[.string ⟨#[]⟩, .slice none 0 0, .slice none 0 0] 32)) := (Below.refl _ _).alloc (Nat.le_refl _) _
            have hr := (hW.block wr'.heap.size (by simp)).trans (heap_alloc_new wr' (.cells #[.string ⟨#[]⟩, .slice none 0 0, .slice none 0 0] 32))
            have hb2 := hba.trans (hW.mono hba.size)
            refine (HL.out W ((HB2.out.alloc _).later hW) ((HE2.out.later hba).later hW) ((SameB.refl (by have := HFB.out; have := HB2.out.size; omega)).later hb2)).mono ?_
            rintro e W' ⟨j, x, pa, pc, ba, bc, rfl, hx, h3⟩
            have hsz := hW.size
            rw [World.size_alloc] at hsz
            exact ⟨j, x, pa, pc, ba, bc, rfl, Lib.hid ⟨hx.out.1, hx.out.2.1, hx.out.2.2.1, hx.out.2.2.2.1, (hx.out.2.2.2.2.1.block (by omega) (by have := HB2.out.lt; have := HB2.out.size; omega)).trans hr, hx.out.2.2.2.2.2 (posOf_below hb2 (by have := HB2.out.g.lts.1; omega))⟩, h3⟩)
          have HSA := Lib.hid (show ∀ (w8 : World) (g : Nat) (x : FnD) (pa : Option Addr) (pc : Nat) (ba : Option Addr) (bc : Nat), BSt w0 w br bg a len cap bs (some ⟨fz, foff, none⟩) fc fns va vc vars next left [.int .i64 0, .int .i64 0, .string ⟨#[]⟩, .slice none 0 0] 54 (u + 102) w8 → EBlk w eb hi [.int .i64 y.op, .int .i64 y.n, .string y.name, .slice ya y.kids.length yc] y w8 → x.params.length ≤ 3 → x.name.size ≤ maxLen → w8.heap[g]? = some (.cells #[.string ⟨#[]⟩, .slice none 0 0, .slice none 0 0] 32 (0, 0)) → hi ≤ g → ((∃ j : Nat, pickF bs (fns.length : Int) (posOf wr' br) = (j : Int) ∧ fns[j]? = some x) ∧ posOf w8 br = posOf wr' br + 1) → br ≠ g → BSt w0 w br bg a len cap bs (some ⟨fz, foff, none⟩) fc fns va vc vars next left [.int .i64 0, .int .i64 0, .string ⟨#[]⟩, .slice none 0 0] 54 (u + 102) (w8.setCells g 0 [.string x.name, .slice pa x.params.length pc, .slice ba x.body.length bc]) ∧ EBlk w eb hi [.int .i64 y.op, .int .i64 y.n, .string y.name, .slice ya y.kids.length yc] y (w8.setCells g 0 [.string x.name, .slice pa x.params.length pc, .slice ba x.body.length bc]) ∧ hi ≤ g ∧ (w8.setCells g 0 [.string x.name, .slice pa x.params.length pc, .slice ba x.body.length bc]).heap[g]? = some (.cells (List.toArray [.string x.name, .slice pa x.params.length pc, .slice ba x.body.length bc]) 32 (0, 0)) ∧ x.params.length ≤ 3 ∧ x.name.size ≤ maxLen ∧ (∃ j : Nat, pickF bs (fns.length : Int) (posOf wr' br) = (j : Int) ∧ fns[j]? = some x) ∧ posOf (w8.setCells g 0 [.string x.name, .slice pa x.params.length pc, .slice ba x.body.length bc]) br = posOf wr' br + 1 from fun w8 g x pa pc ba bc h1 h2 h3 h4 h5 h6 h7 h8 => by
            have ht := turned_setCells (g := g) [.string x.name, .slice pa x.params.length pc, .slice ba x.body.length bc] w8 0
            refine ⟨h1.other ht (fun k hk => by have := h2.lt; omega), h2.turn ht (fun k _ hk => by omega), h6, ?_, h3, h4, h7.1, by rw [posOf_sets h8]; exact h7.2⟩
            have := heap_setCells_mid (A := []) (B := [.string ⟨#[]⟩, .slice none 0 0, .slice none 0 0]) (C := []) (vs := [.string x.name, .slice pa x.params.length pc, .slice ba x.body.length bc]) (o := 0) rfl rfl (by simpa using h5)
            simpa using this)
          have HSB := Lib.hid (show ∀ (w8 : World) (x : FnD) (pa : Option Addr) (pc : Nat) (ba : Option Addr) (bc : Nat), BSt w0 w br bg a len cap bs (some ⟨fz, foff, none⟩) fc fns va vc vars next left [.int .i64 0, .int .i64 0, .string ⟨#[]⟩, .slice none 0 0] 54 (u + 102) w8 → EBlk w eb hi [.int .i64 y.op, .int .i64 y.n, .string y.name, .slice ya y.kids.length yc] y w8 → x.params.length ≤ 3 → x.name.size ≤ maxLen → ((∃ j : Nat, pickF bs (fns.length : Int) (posOf wr' br) = (j : Int) ∧ fns[j]? = some x) ∧ posOf w8 br = posOf wr' br + 1) → BSt w0 w br bg a len cap bs (some ⟨fz, foff, none⟩) fc fns va vc vars next left [.int .i64 0, .int .i64 0, .string ⟨#[]⟩, .slice none 0 0] 54 (u + 102) (w8.alloc (.cells (List.toArray [.string x.name, .slice pa x.params.length pc, .slice ba x.body.length bc]) 32)) ∧ EBlk w eb hi [.int .i64 y.op, .int .i64 y.n, .string y.name, .slice ya y.kids.length yc] y (w8.alloc (.cells (List.toArray [.string x.name, .slice pa x.params.length pc, .slice ba x.body.length bc]) 32)) ∧ hi ≤ w8.heap.size ∧ (w8.alloc (.cells (List.toArray [.string x.name, .slice pa x.params.length pc, .slice ba x.body.length bc]) 32)).heap[w8.heap.size]? = some (.cells (List.toArray [.string x.name, .slice pa x.params.length pc, .slice ba x.body.length bc]) 32 (0, 0)) ∧ x.params.length ≤ 3 ∧ x.name.size ≤ maxLen ∧ (∃ j : Nat, pickF bs (fns.length : Int) (posOf wr' br) = (j : Int) ∧ fns[j]? = some x) ∧ posOf (w8.alloc (.cells (List.toArray [.string x.name, .slice pa x.params.length pc, .slice ba x.body.length bc]) 32)) br = posOf wr' br + 1 from fun w8 x pa pc ba bc h1 h2 h3 h4 h5 => by
            have hba : Below w8.heap.size w8 (w8.alloc (.cells (List.toArray [.string x.name, .slice pa x.params.length pc, .slice ba x.body.length bc]) 32)) := (Below.refl _ _).alloc (Nat.le_refl _) _
            exact ⟨h1.alloc _, h2.later hba, h2.lt.2.2, heap_alloc_new w8 _, h3, h4, h5.1, by rw [posOf_below hba h1.g.lts.1]; exact h5.2⟩)
          have HSM := Lib.hid (show SameB fz wr' wr' from SameB.refl (by have := HFB.out; have := HB2.out.size; omega))
          have HV0 := Lib.hid (fun nq => HL.out (wr'.drewN nq) (HB2.out.drewN nq) (HE2.out.later (below_drewN (Below.refl _ _) nq)) (HSM.out.drewN nq))
          have HA0 := Lib.hid (fun nq => HHA.out ((wr'.alloc (.cells #[.string ⟨#[]⟩, .slice none 0 0, .slice none 0 0] 32)).drewN nq) (below_drewN (Below.refl _ _) nq))
          have HA2 := Lib.hid (fun nq nr => HHA.out (((wr'.drewN nq).alloc (.cells #[.string ⟨#[]⟩, .slice none 0 0, .slice none 0 0] 32)).drewN nr) ⟨rfl, rfl, rfl, Nat.le_refl _, fun _ _ => rfl⟩)
          have c0 := HB2.out.g.c0
          have c1 := HB2.out.g.c1
          have d0 := (HB2.out.g.alloc (.cells #[.string ⟨#[]⟩, .slice none 0 0, .slice none 0 0] 32)).c0
          have d1 := (HB2.out.g.alloc (.cells #[.string ⟨#[]⟩, .slice none 0 0, .slice none 0 0] 32)).c1
          go_region_held3 (fun W => W.cell? ⟨bg, 0, none⟩ = some (.pointer (some ⟨br, 0, none⟩)) ∧ W.cell? ⟨bg, 1, none⟩ = some (.slice (some ⟨fz, foff, none⟩) fns.length fc) ∧ (∀ i, W.cell? ⟨fz, i, none⟩ = wr'.cell? ⟨fz, i, none⟩)) (first | exact ⟨GSt.c0 (by repeat (first | exact hx8.out.1.g | exact HB2.out.g | apply GSt.alloc | apply GSt.drewN | apply GSt.drew)), GSt.c1 (by repeat (first | exact hx8.out.1.g | exact HB2.out.g | apply GSt.alloc | apply GSt.drewN | apply GSt.drew)), SameB.cell (by repeat (first | exact hC8.out | exact HSM.out | apply SameB.alloc | apply SameB.drewN | apply SameB.drew))⟩ | exact ⟨GSt.c0 (by repeat (first | exact HB2.out.g | apply GSt.alloc | apply GSt.drewN | apply GSt.drew)), GSt.c1 (by repeat (first | exact HB2.out.g | apply GSt.alloc | apply GSt.drewN | apply GSt.drew)), SameB.cell (by repeat (first | exact HSM.out | apply SameB.alloc | apply SameB.drewN | apply SameB.drew))⟩ | exact ⟨HY.out.1.g.c0, HY.out.1.g.c1, HYS.out.cell⟩) (first | (go_at_call 25; (first | refine (HA0.out _).mono ?_ | refine (HA2.out _ _).mono ?_); rintro e w8 ⟨j, x, pa, pc, ba, bc, rfl, hx8, e0, e1, e2, hj, hC8⟩; (have HY := Lib.hid (HSA.out w8 wr'.heap.size x pa pc ba bc hx8.out.1 hx8.out.2.1 hx8.out.2.2.1 hx8.out.2.2.2.1 hx8.out.2.2.2.2.1 (by have := HHI.out; omega) hx8.out.2.2.2.2.2 (by have := HB2.out.g.lts.1; omega))); (rw [setCells3] at HY); (have HYS := Lib.hid (show SameB fz wr' (w8.setCells wr'.heap.size 0 [.string x.name, .slice pa x.params.length pc, .slice ba x.body.length bc]) from ⟨((turned_setCells (g := wr'.heap.size) [.string x.name, .slice pa x.params.length pc, .slice ba x.body.length bc] w8 0).block fz (by have := hC8.out.lt; omega) (by have := hC8.out.lt; omega)).trans hC8.out.blk, hC8.out.lt.1, Nat.le_trans hC8.out.lt.2 (turned_setCells (g := wr'.heap.size) [.string x.name, .slice pa x.params.length pc, .slice ba x.body.length bc] w8 0).size⟩)); (rw [setCells3] at HYS); (have hr8 := hx8.out.2.2.2.2.1); (have z0 := cell_of_row _ _ 0 _ _ _ hr8); (have z1 := cell_of_row _ _ 1 _ _ _ hr8); (have z2 := cell_of_row _ _ 2 _ _ _ hr8); (simp only [List.getElem?_toArray, List.getElem?_cons_zero, List.getElem?_cons_succ] at z0 z1 z2); (have g0 := frozen_of_row _ _ 0 _ _ hr8); (have g1 := frozen_of_row _ _ 1 _ _ hr8); (have g2 := frozen_of_row _ _ 2 _ _ hr8)) | (go_at_call 25; refine (HV0.out _).mono ?_; rintro e w8 ⟨j, x, pa, pc, ba, bc, rfl, hx8, e0, e1, e2, hj, hC8⟩; (have HY := Lib.hid (HSB.out w8 x pa pc ba bc hx8.out.1 hx8.out.2.1 hx8.out.2.2.1 hx8.out.2.2.2.1 (hx8.out.2.2.2.2.2 rfl))); (have HYS := Lib.hid (hC8.out.alloc (.cells (List.toArray [.string x.name, .slice pa x.params.length pc, .slice ba x.body.length bc]) 32)))))
          all_goals go_wp2_with fail
          all_goals go_meet
          all_goals exact ⟨_, x, pa, pc, ba, bc, rfl, HY⟩
      case rest =>
      obtain ⟨fb, x, pa, pc, ba, bc, rfl, HX⟩ := hcut
      have HY0 := Lib.hid (show YSt w0 w br bg a len cap bs (some ⟨fz, foff, none⟩) fc fns va vc vars next left [.int .i64 0, .int .i64 0, .string ⟨#[]⟩, .slice none 0 0] 54 eb hi fb wc.heap.size [.int .i64 y.op, .int .i64 y.n, .string y.name, .slice ya y.kids.length yc] [.string x.name, .slice pa x.params.length pc, .slice ba x.body.length bc] y x.name none 0 [] (u + 102) (wc.alloc (.cells #[.int .i64 13, .int .i64 0, .string x.name, .slice none 0 0] 54)) from
        ⟨HX.out.1.alloc _, HX.out.2.1.later ((Below.refl _ _).alloc (Nat.le_refl _) _), (((Below.refl wc.heap.size wc).alloc (Nat.le_refl _) _).block _ (Array.getElem?_eq_some_iff.1 HX.out.2.2.2.1).1).trans HX.out.2.2.2.1, heap_alloc_new wc _, ⟨HX.out.2.2.1, (Array.getElem?_eq_some_iff.1 HX.out.2.2.2.1).1⟩, GrowK.nil _ _ _⟩)
      have HXP := Lib.hid (And.intro HX.out.2.2.2.2.1 HX.out.2.2.2.2.2.1)
      have HXJ := Lib.hid HX.out.2.2.2.2.2.2
      have HPC := Lib.hid (show posOf (wc.alloc (.cells #[.int .i64 13, .int .i64 0, .string x.name, .slice none 0 0] 54)) br = posOf wc br from posOf_below ((Below.refl _ _).alloc (Nat.le_refl _) _) HX.out.1.g.lts.1)
      have r0 := cell_of_row _ _ 0 _ _ _ HX.out.2.2.2.1
      simp only [List.getElem?_toArray, List.getElem?_cons_zero] at r0
      go_upto_region 6 with fail
      obtain ⟨cb, hcb⟩ : ∃ b, b = wc.heap.size := ⟨_, rfl⟩
      rw [← hcb] at HY0 ⊢
      generalize wc.alloc (.cells #[.int .i64 13, .int .i64 0, .string x.name, .slice none 0 0] 54) = W6 at HY0 HPC ⊢
      clear r0 HX hcb
      obtain ⟨N, hN⟩ : ∃ N, N = x.params.length := ⟨_, rfl⟩
      have HNN := Lib.hid hN
      have hN3 : N ≤ 9223372036854775807 := by have := HXP.out.1; omega
      clear hN
      go_wp2_with fail
      go_loopg [8] N (fun G i wr => ∃ (ka : Option Addr) (kc : Nat) (ks : List ExprD), ks.length + G = N ∧ i = .int .i64 (ks.length : Int) ∧ Hid (YSt w0 w br bg a len cap bs (some ⟨fz, foff, none⟩) fc fns va vc vars next left [.int .i64 0, .int .i64 0, .string ⟨#[]⟩, .slice none 0 0] 54 eb hi fb cb [.int .i64 y.op, .int .i64 y.n, .string y.name, .slice ya y.kids.length yc] [.string x.name, .slice pa x.params.length pc, .slice ba x.body.length bc] y x.name ka kc ks (u + 102 + 30 * ks.length) wr ∧ manyF (exprF bs vars 2) ks.length (posOf W6 br) = (ks, posOf wr br)))
      case atStart => exact ⟨none, 0, [], by simp, rfl, Lib.hid ⟨HY0.out, rfl⟩⟩
      case round =>
        obtain ⟨ka, kc, ks, hk, rfl, HB0⟩ := hrel
        have HB := Lib.hid HB0.out.1
        have HMF := Lib.hid HB0.out.2
        clear HY0 HB0
        have r1 := cell_of_row _ _ 1 _ _ _ HB.out.frow
        simp only [List.getElem?_toArray, List.getElem?_cons_zero, List.getElem?_cons_succ] at r1
        rw [← HNN.out] at r1
        by_cases hlt : ks.length < N
        · have hki : (ks.length : Int) < (N : Int) := by omega
          have HKL := Lib.hid (show ks.length ≤ 2 by have := HXP.out.1; have := HNN.out; omega)
          have HL := Lib.hid (show ∀ W, YSt w0 w br bg a len cap bs (some ⟨fz, foff, none⟩) fc fns va vc vars next left [.int .i64 0, .int .i64 0, .string ⟨#[]⟩, .slice none 0 0] 54 eb hi fb cb [.int .i64 y.op, .int .i64 y.n, .string y.name, .slice ya y.kids.length yc] [.string x.name, .slice pa x.params.length pc, .slice ba x.body.length bc] y x.name ka kc ks (u + 102 + 30 * ks.length) W → Calls Tryd.prog 43 #[.pointer (some ⟨br, 0, none⟩), .slice va vars.length vc, .int .i64 2] W fun e W' => ∃ (y2 : ExprD) (ja : Option Addr) (jc : Nat), e = .returned (.agg (List.toArray [.int .i64 y2.op, .int .i64 y2.n, .string y2.name, .slice ja y2.kids.length jc])) ∧ YSt w0 w br bg a len cap bs (some ⟨fz, foff, none⟩) fc fns va vc vars next left [.int .i64 0, .int .i64 0, .string ⟨#[]⟩, .slice none 0 0] 54 eb hi fb cb [.int .i64 y.op, .int .i64 y.n, .string y.name, .slice ya y.kids.length yc] [.string x.name, .slice pa x.params.length pc, .slice ba x.body.length bc] y x.name ka kc ks (u + 132 + 30 * ks.length) W' ∧ exprK 3 (fun b => cb < b ∧ ¬ (Value.slice ka ks.length kc).ownBlock = some b) W' [.int .i64 y2.op, .int .i64 y2.n, .string y2.name, .slice ja y2.kids.length jc] y2 ∧ (∀ q, posOf W br = q → exprF bs vars 2 q = (y2, posOf W' br)) from fun W hW => by
            obtain ⟨p, hp, hrd⟩ := hW.b.g.rd
            refine (l2Expr_any w0 br a len cap bs hlen va vars.length vc vars (listK_sizes hW.b.g.vlist) HVL.out 2 W p (by omega) hrd (by have := HU.out; have := HKL.out; have h28 : costE 2 = 28 := rfl; omega) hW.b.g.strs).mono ?_
            rintro e W' ⟨cs, y2, q, rfl, hrd', hq, ht, hy, hl, -, hF⟩
            obtain ⟨ja, jc, rfl⟩ := exprP_form hy
            have h28 : costE 2 = 28 := rfl
            refine ⟨y2, ja, jc, rfl, hW.step ht hrd' (by omega) (by omega), (exprK_stays 3).mono (fun b hb h => ?_) (show exprK 3 _ W' _ y2 from ⟨hy, hl⟩), fun q hq => by rw [← hq, hrd.pos, hrd'.pos]; exact hF⟩
            have h2 := hW.lts
            refine ⟨by omega, fun e => ?_⟩
            obtain ⟨⟨cells, g1, _⟩, _⟩ := hW.kids
            have := (g1.lt b e).2
            omega)
          have c0 := HB.out.b.g.c0
          have c2 := HB.out.b.g.c2
          have k3 := HB.out.kcell
          go_upto_region 9 with fail
          go_region_law (first | (go_simp; go_at_call 43; refine (HL.out _ (by repeat (first | exact HB.out | apply YSt.drew | apply YSt.drewN | apply YSt.alloc))).mono ?_; rintro e w8 ⟨y2, ja, jc, rfl, hY8, hy8, hF8⟩; (have hE8 := hF8 (posOf wr br) (by first | rfl | exact posOf_below (by repeat (first | exact Below.refl _ _ | apply later_drew | apply later_drewN | apply later_alloc)) HB.out.b.g.lts.1)); (have k38 := hY8.kcell); (have i38 := (hY8.alloc (.cells (List.toArray [.int .i64 y2.op, .int .i64 y2.n, .string y2.name, .slice ja y2.kids.length jc]) 54)).kcell); (obtain ⟨cells, hrows⟩ := hY8.kids.rows)) | (refine step_app_expr rfl (.tmp 61) (.tmp 71) rfl (cb + 1) _ ks.length _ rfl (ownsRow_below hrows.1 (by repeat (first | exact Below.refl _ _ | apply later_drew | apply later_drewN | apply later_alloc))) _ 1 [.int .i64 y2.op, .int .i64 y2.n, .string y2.name, .slice ja y2.kids.length jc] rfl (by first | exact rowAt_laidE' _ _ _ | exact RowAt.drew (rowAt_laidE' _ _ _)) rfl oneCell_expr (by have := HKL.out; omega) (Nat.le_trans (Nat.succ_le_of_lt (hY8.alloc (.cells (List.toArray [.int .i64 y2.op, .int .i64 y2.n, .string y2.name, .slice ja y2.kids.length jc]) 54)).lts.2.2.1) (Below.size (show Below (w8.alloc (.cells (List.toArray [.int .i64 y2.op, .int .i64 y2.n, .string y2.name, .slice ja y2.kids.length jc]) 54)).heap.size (w8.alloc (.cells (List.toArray [.int .i64 y2.op, .int .i64 y2.n, .string y2.name, .slice ja y2.kids.length jc]) 54)) _ from by repeat (first | exact Below.refl _ _ | apply later_drew | apply later_drewN)))) ?_; intro a9 c9 w9 hown9 hg9 hlies9; (have h9 := hY8.after2 hg9 (by repeat (first | exact Below.refl _ _ | apply later_drew | apply later_drewN | apply later_alloc))); (have s3 := cell_of_row _ _ 3 _ _ _ h9); (have t3 := frozen_of_row _ _ 3 _ _ h9); (have hp9 := hY8.pos2 hg9 (by repeat (first | exact Below.refl _ _ | apply later_drew | apply later_drewN | apply later_alloc)) (.slice a9 (ks.length + 1) c9)); (have hP9 := hY8.push2 hrows hy8 hown9 hg9 hlies9 (by repeat (first | exact Below.refl _ _ | apply later_drew | apply later_drewN | apply later_alloc)))))
          all_goals
            have HP9 := Lib.hid hP9
            have HM9 := Lib.hid (manyF_step HMF.out (show exprF bs vars 2 (posOf wr br) = (y2, posOf (w9.setCell ⟨cb, 3, none⟩ (.slice a9 (ks.length + 1) c9)) br) by rw [hp9]; exact hE8))
            clear hp9 hE8 hF8
            clear hY8 hy8 k38 i38 hrows hown9 hg9 hlies9 h9 s3 t3 hP9 c0 c2 k3 r1
            generalize w9.setCell ⟨cb, 3, none⟩ (.slice a9 (ks.length + 1) c9) = w10 at HP9 HM9 ⊢
            go_wp2
            go_roundg (gk - 1)
            case measure => omega
            case rel => exact ⟨a9, c9, ks ++ [y2], by rw [List.length_append, List.length_singleton]; omega, by rw [List.length_append, List.length_singleton]; go_num, Lib.hid (by rw [List.length_append, List.length_singleton]; rw [show u + 102 + 30 * (ks.length + 1) = u + 132 + 30 * ks.length by omega]; exact ⟨HP9.out, HM9.out⟩)⟩
        · obtain rfl : N = ks.length := by omega
          obtain ⟨p, hp, hrd⟩ := HB.out.b.g.rd
          have HPP := Lib.hid hp
          have HKL := Lib.hid (show ks.length ≤ 3 by have := HXP.out.1; have := HNN.out; omega)
          have c0 := HB.out.b.g.c0
          go_wp2_with fail
          refine (pick_fun w0 _ br a len cap bs p 2 hrd (by omega) hlen (by have := HPP.out; have := HU.out; have := HKL.out; omega)).mono ?_
          rintro e w8 ⟨v8, _, _, rfl, hrd8, hg8, hV8⟩
          have HV8 := Lib.hid (show pickF bs 2 (posOf wr br) = v8 ∧ posOf w8 br = posOf wr br + 1 by rw [hrd.pos, hrd8.pos]; exact ⟨hV8, rfl⟩)
          have HFA := Lib.hid (show gexprF bs fns vars n (posOf w br) = if v8 = 0 then (.mk 13 0 x.name ks, posOf w8 br) else (.mk (numF bs [3, 4, 8, 10] (posOf w8 br)) 0 ⟨#[]⟩ [.mk 13 0 x.name ks, (exprF bs vars 2 (posOf w8 br + 1)).1], (exprF bs vars 2 (posOf w8 br + 1)).2) by
            obtain ⟨⟨j, hj, hfj⟩, hpj⟩ := HXJ.out
            have hmf := HMF.out
            rw [HPC.out, hpj, HV.out.2, HNN.out] at hmf
            rw [HV.out.2] at hj
            rw [gexprF_call HF1.out hf0 HV.out.1 (by have := HNV.out; omega) hj hfj hmf, HV8.out.1, HV8.out.2])
          clear hV8
          have HY8 := Lib.hid (HB.out.step (u' := u + 200) (TurnR.grown hg8) hrd8 (by have := HPP.out; have := HKL.out; omega) (by have := HKL.out; omega))
          clear hrd8 hg8 hp hrd HB c0 r1
          have HC8 := Lib.hid (fun (W : World) (h : YSt w0 w br bg a len cap bs (some ⟨fz, foff, none⟩) fc fns va vc vars next left [.int .i64 0, .int .i64 0, .string ⟨#[]⟩, .slice none 0 0] 54 eb hi fb cb [.int .i64 y.op, .int .i64 y.n, .string y.name, .slice ya y.kids.length yc] [.string x.name, .slice pa x.params.length pc, .slice ba x.body.length bc] y x.name ka kc ks (u + 200) W) => exprK_call (S := fun b => w.heap.size < b) ((h.kids.list (exprK_stays 3)).mono (exprK_stays 3) (fun b _ h3 => by have := h.lts; have := h.lt; rcases h3 with h3 | h3 <;> omega)) HXP.out.2 (by have := HKL.out; omega) (c := kc) 13 (by decide))
          have d0 := cell_of_row _ _ 0 _ _ _ HY8.out.crow
          have d1 := cell_of_row _ _ 1 _ _ _ HY8.out.crow
          have d2 := cell_of_row _ _ 2 _ _ _ HY8.out.crow
          have d3 := cell_of_row _ _ 3 _ _ _ HY8.out.crow
          simp only [List.getElem?_toArray, List.getElem?_cons_zero, List.getElem?_cons_succ] at d0 d1 d2 d3
          by_cases hv8 : v8 = 0
          · subst hv8
            have HFZ := Lib.hid (show gexprF bs fns vars n (posOf w br) = (.mk 13 0 x.name ks, posOf (w8.setCells w.heap.size 0 [.int .i64 13, .int .i64 0, .string x.name, .slice ka ks.length kc]) br) by rw [posOf_sets (by have := HLT.out.1; omega), HFA.out, if_pos rfl])
            have z0 := cell_of_row _ _ 0 _ _ _ (HY8.out.b.rrow)
            have z1 := cell_of_row _ _ 1 _ _ _ (HY8.out.b.rrow)
            have z2 := cell_of_row _ _ 2 _ _ _ (HY8.out.b.rrow)
            have z3 := cell_of_row _ _ 3 _ _ _ (HY8.out.b.rrow)
            simp only [List.getElem?_toArray, List.getElem?_cons_zero, List.getElem?_cons_succ] at z0 z1 z2 z3
            have f0 := frozen_of_row _ _ 0 _ _ (HY8.out.b.rrow)
            have f1 := frozen_of_row _ _ 1 _ _ (HY8.out.b.rrow)
            have f2 := frozen_of_row _ _ 2 _ _ (HY8.out.b.rrow)
            have f3 := frozen_of_row _ _ 3 _ _ (HY8.out.b.rrow)
            have HZ := Lib.hid (show (w8.setCells w.heap.size 0 [.int .i64 13, .int .i64 0, .string x.name, .slice ka ks.length kc]).heap[w.heap.size]? = some (.cells (List.toArray [.int .i64 13, .int .i64 0, .string x.name, .slice ka ks.length kc]) 54 (0, 0)) ∧ exprK 8 (fun k => w.heap.size ≤ k) (w8.setCells w.heap.size 0 [.int .i64 13, .int .i64 0, .string x.name, .slice ka ks.length kc]) [.int .i64 13, .int .i64 0, .string x.name, .slice ka ks.length kc] (.mk 13 0 x.name ks) ∧ GSt w0 br bg a len cap bs (some ⟨fz, foff, none⟩) fc fns (u + 300) va vc vars next left (w8.setCells w.heap.size 0 [.int .i64 13, .int .i64 0, .string x.name, .slice ka ks.length kc]) ∧ Turn2 br bg w (w8.setCells w.heap.size 0 [.int .i64 13, .int .i64 0, .string x.name, .slice ka ks.length kc]) by
              obtain ⟨k1, k2, k3, k4⟩ := HY8.out.b.put (cs := [.int .i64 13, .int .i64 0, .string x.name, .slice ka ks.length kc]) rfl
              exact ⟨k1, (exprK_stays 8).mono (fun k _ h => Nat.le_of_lt h) ((exprK_stays 8).turned k2 (fun k _ h1 h2 => by have h1 : w.heap.size < k := h1; omega) (exprK_le (by omega : 4 ≤ 8) (HC8.out w8 HY8.out))), k3.more (by omega), k4⟩)
            rw [setCells4] at HZ HFZ
            go_wp2
            refine bodyPost_ret (results_cell_row rfl _ _ w.heap.size 54 #[.int .i64 13, .int .i64 0, .string x.name, .slice ka ks.length kc] (0, 0) _ rfl ?_ Tryd.underlying54 rfl (by kernel_rfl)) rfl ?_
            · exact HZ.out.1
            exact ⟨_, _, rfl, HZ.out.2.1, HZ.out.2.2.1, HZ.out.2.2.2, HFZ.out⟩
          · have h80 : (v8 == 0) = false := by simpa using hv8
            have HFB := Lib.hid (show gexprF bs fns vars n (posOf w br) = (.mk (numF bs [3, 4, 8, 10] (posOf w8 br)) 0 ⟨#[]⟩ [.mk 13 0 x.name ks, (exprF bs vars 2 (posOf w8 br + 1)).1], (exprF bs vars 2 (posOf w8 br + 1)).2) by rw [HFA.out, if_neg hv8])
            clear hv8
            clear d0 d1 d2 d3
            have HH := Lib.hid (fun (u9 : Nat) (W : World) (h : YSt w0 w br bg a len cap bs (some ⟨fz, foff, none⟩) fc fns va vc vars next left [.int .i64 0, .int .i64 0, .string ⟨#[]⟩, .slice none 0 0] 54 eb hi fb cb [.int .i64 y.op, .int .i64 y.n, .string y.name, .slice ya y.kids.length yc] [.string x.name, .slice pa x.params.length pc, .slice ba x.body.length bc] y x.name ka kc ks u9 W) => (⟨h.b.g.c0, h.b.g.c2, cell_of_row _ _ 0 _ _ _ h.crow, cell_of_row _ _ 1 _ _ _ h.crow, cell_of_row _ _ 2 _ _ _ h.crow, cell_of_row _ _ 3 _ _ _ h.crow⟩ : W.cell? ⟨bg, 0, none⟩ = some (.pointer (some ⟨br, 0, none⟩)) ∧ W.cell? ⟨bg, 2, none⟩ = some (.slice va vars.length vc) ∧ W.cell? ⟨cb, 0, none⟩ = some (.int .i64 13) ∧ W.cell? ⟨cb, 1, none⟩ = some (.int .i64 0) ∧ W.cell? ⟨cb, 2, none⟩ = some (.string x.name) ∧ W.cell? ⟨cb, 3, none⟩ = some (.slice ka ks.length kc)))
            have HS := Lib.hid (fun (u9 : Nat) (W : World) (v0 v1 v2 v3 : Value) (h : YSt w0 w br bg a len cap bs (some ⟨fz, foff, none⟩) fc fns va vc vars next left [.int .i64 0, .int .i64 0, .string ⟨#[]⟩, .slice none 0 0] 54 eb hi fb cb [.int .i64 y.op, .int .i64 y.n, .string y.name, .slice ya y.kids.length yc] [.string x.name, .slice pa x.params.length pc, .slice ba x.body.length bc] y x.name ka kc ks u9 W) => (show ((((W.setCell ⟨w.heap.size, 0, none⟩ v0).setCell ⟨w.heap.size, 1, none⟩ v1).setCell ⟨w.heap.size, 2, none⟩ v2).setCell ⟨w.heap.size, 3, none⟩ v3).cell? ⟨bg, 0, none⟩ = some (.pointer (some ⟨br, 0, none⟩)) ∧ ((((W.setCell ⟨w.heap.size, 0, none⟩ v0).setCell ⟨w.heap.size, 1, none⟩ v1).setCell ⟨w.heap.size, 2, none⟩ v2).setCell ⟨w.heap.size, 3, none⟩ v3).cell? ⟨bg, 2, none⟩ = some (.slice va vars.length vc) ∧ ((((W.setCell ⟨w.heap.size, 0, none⟩ v0).setCell ⟨w.heap.size, 1, none⟩ v1).setCell ⟨w.heap.size, 2, none⟩ v2).setCell ⟨w.heap.size, 3, none⟩ v3).cell? ⟨cb, 0, none⟩ = some (.int .i64 13) ∧ ((((W.setCell ⟨w.heap.size, 0, none⟩ v0).setCell ⟨w.heap.size, 1, none⟩ v1).setCell ⟨w.heap.size, 2, none⟩ v2).setCell ⟨w.heap.size, 3, none⟩ v3).cell? ⟨cb, 1, none⟩ = some (.int .i64 0) ∧ ((((W.setCell ⟨w.heap.size, 0, none⟩ v0).setCell ⟨w.heap.size, 1, none⟩ v1).setCell ⟨w.heap.size, 2, none⟩ v2).setCell ⟨w.heap.size, 3, none⟩ v3).cell? ⟨cb, 2, none⟩ = some (.string x.name) ∧ ((((W.setCell ⟨w.heap.size, 0, none⟩ v0).setCell ⟨w.heap.size, 1, none⟩ v1).setCell ⟨w.heap.size, 2, none⟩ v2).setCell ⟨w.heap.size, 3, none⟩ v3).cell? ⟨cb, 3, none⟩ = some (.slice ka ks.length kc) from by
              rw [← setCells4]
              have ht := turned_setCells (g := w.heap.size) [v0, v1, v2, v3] W 0
              have hl := h.lts
              have hl2 := h.lt
              have hbz := h.b.size
              have hbl := h.b.lt
              have e1 : ∀ i, (W.setCells w.heap.size 0 [v0, v1, v2, v3]).cell? ⟨bg, i, none⟩ = W.cell? ⟨bg, i, none⟩ := fun i => World.cell?_of_block (ht.block bg (by omega) (by omega))
              have e2 : ∀ i, (W.setCells w.heap.size 0 [v0, v1, v2, v3]).cell? ⟨cb, i, none⟩ = W.cell? ⟨cb, i, none⟩ := fun i => World.cell?_of_block (ht.block cb (by omega) (by omega))
              rw [e1, e1, e2, e2, e2, e2]
              exact HH.out u9 W h))
            have HN := Lib.hid (show ∀ W, Below (w8.alloc (.cells #[.int .i64 3, .int .i64 4, .int .i64 8, .int .i64 10] 3)).heap.size (w8.alloc (.cells #[.int .i64 3, .int .i64 4, .int .i64 8, .int .i64 10] 3)) W → Calls Tryd.prog 28 #[.pointer (some ⟨br, 0, none⟩), .slice (some ⟨w8.heap.size, 0, none⟩) 4 4] W fun e W' => ∃ op : Int, e = .returned (.int .i64 op) ∧ (3 ≤ op ∧ op ≤ 10) ∧ Hid (YSt w0 w br bg a len cap bs (some ⟨fz, foff, none⟩) fc fns va vc vars next left [.int .i64 0, .int .i64 0, .string ⟨#[]⟩, .slice none 0 0] 54 eb hi fb cb [.int .i64 y.op, .int .i64 y.n, .string y.name, .slice ya y.kids.length yc] [.string x.name, .slice pa x.params.length pc, .slice ba x.body.length bc] y x.name ka kc ks (u + 201) W' ∧ numF bs [3, 4, 8, 10] (posOf w8 br) = op ∧ posOf W' br = posOf w8 br + 1) from fun W hW => by
              have hW1 : YSt w0 w br bg a len cap bs (some ⟨fz, foff, none⟩) fc fns va vc vars next left [.int .i64 0, .int .i64 0, .string ⟨#[]⟩, .slice none 0 0] 54 eb hi fb cb [.int .i64 y.op, .int .i64 y.n, .string y.name, .slice ya y.kids.length yc] [.string x.name, .slice pa x.params.length pc, .slice ba x.body.length bc] y x.name ka kc ks (u + 200) W := (HY8.out.alloc _).later hW
              obtain ⟨p, hp, hrd⟩ := hW1.b.g.rd
              have hpw : posOf w8 br = p := by rw [← hrd.pos, posOf_below hW (by have := HY8.out.b.g.lts.1; rw [World.size_alloc]; omega), posOf_below ((Below.refl _ _).alloc (Nat.le_refl _) _) HY8.out.b.g.lts.1]
              refine (num_fun w0 _ br a len cap bs p w8.heap.size 4 4 [3, 4, 8, 10] hrd ((litI w8 [3, 4, 8, 10]).later hW) (by have := HY8.out.lts; have := HY8.out.b.size; omega) (by omega) hlen (by have := HU.out; omega)).mono ?_
              rintro e W' ⟨op, hop, rfl, hrd', hg', hFo⟩
              refine ⟨op, rfl, ?_, Lib.hid ⟨hW1.step (u' := u + 201) (TurnR.grown hg') hrd' (by omega) (by omega), by rw [hpw]; exact hFo, by rw [hpw, hrd'.pos]⟩⟩
              simp only [List.mem_cons, List.not_mem_nil, or_false] at hop
              omega)
            have HN0 := Lib.hid (fun nq => HN.out ((w8.alloc (.cells #[.int .i64 3, .int .i64 4, .int .i64 8, .int .i64 10] 3)).drewN nq) (below_drewN (Below.refl _ _) nq))
            have HN2 := Lib.hid (fun nq nr => HN.out (((w8.drewN nq).alloc (.cells #[.int .i64 3, .int .i64 4, .int .i64 8, .int .i64 10] 3)).drewN nr) ⟨rfl, rfl, rfl, Nat.le_refl _, fun _ _ => rfl⟩)
            have HE := Lib.hid (show ∀ W, YSt w0 w br bg a len cap bs (some ⟨fz, foff, none⟩) fc fns va vc vars next left [.int .i64 0, .int .i64 0, .string ⟨#[]⟩, .slice none 0 0] 54 eb hi fb cb [.int .i64 y.op, .int .i64 y.n, .string y.name, .slice ya y.kids.length yc] [.string x.name, .slice pa x.params.length pc, .slice ba x.body.length bc] y x.name ka kc ks (u + 201) W → Calls Tryd.prog 43 #[.pointer (some ⟨br, 0, none⟩), .slice va vars.length vc, .int .i64 2] W fun e W' => ∃ (y2 : ExprD) (ja : Option Addr) (jc : Nat), e = .returned (.agg (List.toArray [.int .i64 y2.op, .int .i64 y2.n, .string y2.name, .slice ja y2.kids.length jc])) ∧ YSt w0 w br bg a len cap bs (some ⟨fz, foff, none⟩) fc fns va vc vars next left [.int .i64 0, .int .i64 0, .string ⟨#[]⟩, .slice none 0 0] 54 eb hi fb cb [.int .i64 y.op, .int .i64 y.n, .string y.name, .slice ya y.kids.length yc] [.string x.name, .slice pa x.params.length pc, .slice ba x.body.length bc] y x.name ka kc ks (u + 240) W' ∧ exprK 3 (fun b => cb < b) W' [.int .i64 y2.op, .int .i64 y2.n, .string y2.name, .slice ja y2.kids.length jc] y2 ∧ (∀ q, posOf W br = q → exprF bs vars 2 q = (y2, posOf W' br)) from fun W hW => by
              obtain ⟨p, hp, hrd⟩ := hW.b.g.rd
              refine (l2Expr_any w0 br a len cap bs hlen va vars.length vc vars (listK_sizes hW.b.g.vlist) HVL.out 2 W p (by omega) hrd (by have := HU.out; have h28 : costE 2 = 28 := rfl; omega) hW.b.g.strs).mono ?_
              rintro e W' ⟨cs, y2, q, rfl, hrd', hq, ht, hy, hl, -, hF⟩
              obtain ⟨ja, jc, rfl⟩ := exprP_form hy
              have h28 : costE 2 = 28 := rfl
              refine ⟨y2, ja, jc, rfl, hW.step ht hrd' (by omega) (by omega), (exprK_stays 3).mono (fun b hb h => ?_) (show exprK 3 _ W' _ y2 from ⟨hy, hl⟩), fun q hq => by rw [← hq, hrd.pos, hrd'.pos]; exact hF⟩
              have h2 := hW.lts
              omega)
            go_upto_region 12 with fail
            go_region_held3 (fun W => W.cell? ⟨bg, 0, none⟩ = some (.pointer (some ⟨br, 0, none⟩)) ∧ W.cell? ⟨bg, 2, none⟩ = some (.slice va vars.length vc) ∧ W.cell? ⟨cb, 0, none⟩ = some (.int .i64 13) ∧ W.cell? ⟨cb, 1, none⟩ = some (.int .i64 0) ∧ W.cell? ⟨cb, 2, none⟩ = some (.string x.name) ∧ W.cell? ⟨cb, 3, none⟩ = some (.slice ka ks.length kc)) (first | exact HH.out _ _ (by repeat (first | exact HY8.out | exact hY9.out.1 | exact hY10 | apply YSt.alloc | apply YSt.drewN | apply YSt.drew)) | exact HS.out _ _ _ _ _ _ (hY10.alloc _)) (first | (go_at_call 28; (first | refine (HN0.out _).mono ?_ | refine (HN2.out _ _).mono ?_); rintro e w9 ⟨op, rfl, hop, hY9⟩) | (go_at_call 43; refine (HE.out _ (by repeat (first | exact HY8.out | exact hY9.out.1 | exact hY10 | apply YSt.alloc | apply YSt.drewN | apply YSt.drew))).mono ?_; rintro e w10 ⟨y2, ja, jc, rfl, hY10, hy10, hE10⟩; (have hE11 := hE10 (posOf w9 br) (by first | rfl | exact posOf_below (by repeat (first | exact Below.refl _ _ | apply later_drew | apply later_drewN | apply later_alloc)) hY9.out.1.b.g.lts.1)); (have hr8 := (hY10.alloc (.cells #[.int .i64 13, .int .i64 0, .string x.name, .slice ka ks.length kc, .int .i64 y2.op, .int .i64 y2.n, .string y2.name, .slice ja y2.kids.length jc] 54)).b.rrow); (have z0 := cell_of_row _ _ 0 _ _ _ hr8); (have z1 := cell_of_row _ _ 1 _ _ _ hr8); (have z2 := cell_of_row _ _ 2 _ _ _ hr8); (have z3 := cell_of_row _ _ 3 _ _ _ hr8); (simp only [List.getElem?_toArray, List.getElem?_cons_zero, List.getElem?_cons_succ] at z0 z1 z2 z3); (have g0 := frozen_of_row _ _ 0 _ _ hr8); (have g1 := frozen_of_row _ _ 1 _ _ hr8); (have g2 := frozen_of_row _ _ 2 _ _ hr8); (have g3 := frozen_of_row _ _ 3 _ _ hr8)))
            all_goals
              have HFZ := Lib.hid (show gexprF bs fns vars n (posOf w br) = (.mk op 0 ⟨#[]⟩ [.mk 13 0 x.name ks, y2], posOf ((w10.alloc (.cells #[.int .i64 13, .int .i64 0, .string x.name, .slice ka ks.length kc, .int .i64 y2.op, .int .i64 y2.n, .string y2.name, .slice ja y2.kids.length jc] 54)).setCells w.heap.size 0 [.int .i64 op, .int .i64 0, .string ⟨#[]⟩, .slice (some ⟨w10.heap.size, 0, none⟩) 2 2]) br) by
                rw [posOf_sets (by have := HLT.out.1; omega), posOf_below ((Below.refl _ _).alloc (Nat.le_refl _) _) hY10.b.g.lts.1, HFB.out, hY9.out.2.1]
                have h10 := hE11
                rw [hY9.out.2.2] at h10
                rw [h10])
              have HZ := Lib.hid (show ((w10.alloc (.cells #[.int .i64 13, .int .i64 0, .string x.name, .slice ka ks.length kc, .int .i64 y2.op, .int .i64 y2.n, .string y2.name, .slice ja y2.kids.length jc] 54)).setCells w.heap.size 0 [.int .i64 op, .int .i64 0, .string ⟨#[]⟩, .slice (some ⟨w10.heap.size, 0, none⟩) 2 2]).heap[w.heap.size]? = some (.cells (List.toArray [.int .i64 op, .int .i64 0, .string ⟨#[]⟩, .slice (some ⟨w10.heap.size, 0, none⟩) 2 2]) 54 (0, 0)) ∧ exprK 8 (fun k => w.heap.size ≤ k) ((w10.alloc (.cells #[.int .i64 13, .int .i64 0, .string x.name, .slice ka ks.length kc, .int .i64 y2.op, .int .i64 y2.n, .string y2.name, .slice ja y2.kids.length jc] 54)).setCells w.heap.size 0 [.int .i64 op, .int .i64 0, .string ⟨#[]⟩, .slice (some ⟨w10.heap.size, 0, none⟩) 2 2]) [.int .i64 op, .int .i64 0, .string ⟨#[]⟩, .slice (some ⟨w10.heap.size, 0, none⟩) 2 2] (.mk op 0 ⟨#[]⟩ [.mk 13 0 x.name ks, y2]) ∧ GSt w0 br bg a len cap bs (some ⟨fz, foff, none⟩) fc fns (u + 300) va vc vars next left ((w10.alloc (.cells #[.int .i64 13, .int .i64 0, .string x.name, .slice ka ks.length kc, .int .i64 y2.op, .int .i64 y2.n, .string y2.name, .slice ja y2.kids.length jc] 54)).setCells w.heap.size 0 [.int .i64 op, .int .i64 0, .string ⟨#[]⟩, .slice (some ⟨w10.heap.size, 0, none⟩) 2 2]) ∧ Turn2 br bg w ((w10.alloc (.cells #[.int .i64 13, .int .i64 0, .string x.name, .slice ka ks.length kc, .int .i64 y2.op, .int .i64 y2.n, .string y2.name, .slice ja y2.kids.length jc] 54)).setCells w.heap.size 0 [.int .i64 op, .int .i64 0, .string ⟨#[]⟩, .slice (some ⟨w10.heap.size, 0, none⟩) 2 2]) by
                have hA := hY10.alloc (.cells #[.int .i64 13, .int .i64 0, .string x.name, .slice ka ks.length kc, .int .i64 y2.op, .int .i64 y2.n, .string y2.name, .slice ja y2.kids.length jc] 54)
                have hlts := hY10.lts
                obtain ⟨k1, k2, k3, k4⟩ := hA.b.put (cs := [.int .i64 op, .int .i64 0, .string ⟨#[]⟩, .slice (some ⟨w10.heap.size, 0, none⟩) 2 2]) rfl
                have hcall := exprK_call (S := fun b => w.heap.size < b) ((hA.kids.list (exprK_stays 3)).mono (exprK_stays 3) (fun b _ h3 => by have := hA.lts; have := hA.lt; rcases h3 with h3 | h3 <;> omega)) HXP.out.2 (by have := HKL.out; omega) (c := kc) 13 (by decide)
                have hy2 := exprK_le (by omega : 3 ≤ 4) ((exprK_stays 3).below ((Below.refl w10.heap.size w10).alloc (Nat.le_refl _) (.cells #[.int .i64 13, .int .i64 0, .string x.name, .slice ka ks.length kc, .int .i64 y2.op, .int .i64 y2.n, .string y2.name, .slice ja y2.kids.length jc] 54)) ((exprK_stays 3).mono (S' := fun b => w.heap.size < b) (fun k _ (h : cb < k) => by have := hY10.lt; omega) hy10))
                have htwo := exprK_two (op := op) (by omega) (S := fun b => w.heap.size < b) (c := 2) (t := 54) (b := w10.heap.size) (heap_alloc_new w10 (.cells #[.int .i64 13, .int .i64 0, .string x.name, .slice ka ks.length kc, .int .i64 y2.op, .int .i64 y2.n, .string y2.name, .slice ja y2.kids.length jc] 54)) (by have := hY10.lt; omega) hcall hy2
                exact ⟨k1, (exprK_stays 8).mono (fun k _ h => Nat.le_of_lt h) ((exprK_stays 8).turned k2 (fun k _ h1 h2 => by have h1 : w.heap.size < k := h1; omega) (exprK_le (by omega : 4 + 1 ≤ 8) htwo)), k3.more (by omega), k4⟩)
              rw [setCells4] at HZ HFZ
              go_wp2
              refine bodyPost_ret (results_cell_row rfl _ _ w.heap.size 54 (List.toArray [.int .i64 op, .int .i64 0, .string ⟨#[]⟩, .slice (some ⟨w10.heap.size, 0, none⟩) 2 2]) (0, 0) _ rfl ?_ Tryd.underlying54 rfl (by kernel_rfl)) rfl ?_
              · exact HZ.out.1
              exact ⟨_, _, rfl, HZ.out.2.1, HZ.out.2.2.1, HZ.out.2.2.2, HFZ.out⟩
end

end Go.Proofs.YtccdmgncjlpebaaDoor
