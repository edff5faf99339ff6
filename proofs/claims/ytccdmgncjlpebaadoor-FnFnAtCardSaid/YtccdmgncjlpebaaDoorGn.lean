/-
  The reference draws programs: what the calls for statements, blocks and loops give; a statement is laid.
-/
import Derived.Test.YtccdmgncjlpebaaDoorGm

namespace Go.Proofs.YtccdmgncjlpebaaDoor
open Go.RowKit
set_option linter.unusedVariables false

theorem ListK.deeper {d d' : Nat} (hd : d ≤ d') {S : Nat → Prop} {w : World} {a : Option Addr} {xs : List StmtD} (h : ListK 5 (StmtP d) S w a xs) : ListK 5 (StmtP d') S w a xs := h.rel (fun _ _ _ h => stmtP_le hd h)
theorem arg_laid {S : Nat → Prop} {w : World} {cs : List Value} {y : ExprD} (h : exprK 12 S w cs y) : ListK 4 (exprK 12) (fun k => S k ∨ w.heap.size ≤ k) (w.alloc (.cells cs.toArray 54)) (some ⟨w.heap.size, 0, none⟩) [y] :=
  ListK.one (exprK_stays 12) (heap_alloc_new w _) (.inr (Nat.le_refl _)) ((exprK_stays 12).mono (fun k _ h => .inl h) ((exprK_stays 12).below ((Below.refl _ _).alloc (Nat.le_refl _) _) h))
theorem kid_laid {d : Nat} {S : Nat → Prop} {w : World} {cs : List Value} {y : ExprD} (h : exprK d S w cs y) : ListK 4 (exprK d) (fun k => S k ∨ w.heap.size ≤ k) (w.alloc (.cells cs.toArray 54)) (some ⟨w.heap.size, 0, none⟩) [y] :=
  ListK.one (exprK_stays d) (heap_alloc_new w _) (.inr (Nat.le_refl _)) ((exprK_stays d).mono (fun k _ h => .inl h) ((exprK_stays d).below ((Below.refl _ _).alloc (Nat.le_refl _) _) h))
theorem stmt_laid {d : Nat} {S : Nat → Prop} {w : World} {cs : List Value} {s : StmtD} (h : StmtP d S w cs s) : ListK 5 (StmtP d) (fun k => S k ∨ w.heap.size ≤ k) (w.alloc (.cells cs.toArray 57)) (some ⟨w.heap.size, 0, none⟩) [s] :=
  ListK.one (stmtP_stays d) (heap_alloc_new w _) (.inr (Nat.le_refl _)) ((stmtP_stays d).mono (fun k _ h => .inl h) ((stmtP_stays d).below ((Below.refl _ _).alloc (Nat.le_refl _) _) h))
theorem stmt_bare {S : Nat → Prop} {w : World} {a : Option Addr} {c : Nat} {args : List ExprD} (h : ListK 4 (exprK 12) S w a args) (hl : args.length ≤ 100) (op : Int) (nm : ByteArray) (hop : -9223372036854775808 ≤ op ∧ op ≤ 9223372036854775807) (hn : nm.size ≤ maxLen) :
    StmtP 1 S w [.int .i64 op, .string nm, .slice a args.length c, .slice none 0 0, .slice none 0 0] (.mk op nm args [] []) :=
  ⟨_, _, none, 0, none, 0, rfl, ⟨hn, hop.1, hop.2, hl, (by decide : (0 : Nat) ≤ 100), (by decide : (0 : Nat) ≤ 100)⟩, h, ListK.nil _ _ _, ListK.nil _ _ _⟩

theorem posOf_alloc {w : World} {br : Nat} {o : Obj} (h : br < w.heap.size) : posOf (w.alloc o) br = posOf w br := posOf_below ((Below.refl _ _).alloc (Nat.le_refl _) _) h
theorem posOf_alloc2 {w : World} {br : Nat} {o o2 : Obj} (h : br < w.heap.size) : posOf ((w.alloc o).alloc o2) br = posOf w br := by rw [posOf_alloc (by rw [World.size_alloc]; omega), posOf_alloc h]
theorem posOf_alloc3 {w : World} {br : Nat} {o o2 o3 : Obj} (h : br < w.heap.size) : posOf (((w.alloc o).alloc o2).alloc o3) br = posOf w br := by rw [posOf_alloc (by rw [World.size_alloc, World.size_alloc]; omega), posOf_alloc2 h]
/-- What a number makes: a statement, or two. -/
def someV (bs : List Int) (fns : List FnD) (blk loop : GS → List StmtD × GS) (dq v : Int) (vars : List ByteArray) (next left : Int) (p : Nat) : List StmtD × GS :=
  if v < 3 ∧ 0 < vars.length then ([.mk 2 (ofF bs vars p) [(gexprF bs fns vars 3 (p + 1)).1] [] []], ⟨(gexprF bs fns vars 3 (p + 1)).2, vars, next, left⟩)
  else if v < 5 then ([(letF bs (gexprF bs fns vars 3 p).1 ⟨(gexprF bs fns vars 3 p).2, vars, next, left⟩).1], (letF bs (gexprF bs fns vars 3 p).1 ⟨(gexprF bs fns vars 3 p).2, vars, next, left⟩).2)
  else if v < 7 ∨ dq < 2 then ([.mk 3 ⟨#[]⟩ [(gexprF bs fns vars 3 p).1] [] []], ⟨(gexprF bs fns vars 3 p).2, vars, next, left⟩)
  else if v = 7 then ([.mk 4 ⟨#[]⟩ [(cellF bs fns vars p).1, (gexprF bs fns vars 2 (cellF bs fns vars p).2).1] [] []], ⟨(gexprF bs fns vars 2 (cellF bs fns vars p).2).2, vars, next, left⟩)
  else if v = 8 then ([.mk 3 ⟨#[]⟩ [.mk 12 0 ⟨#[]⟩ [(cellF bs fns vars p).1]] [] []], ⟨(cellF bs fns vars p).2, vars, next, left⟩)
  else if v < 11 then
    let e := gexprF bs fns vars 3 p
    let b := blk ⟨e.2, vars, next, left⟩
    if pickF bs 2 b.2.p = 0 then
      let b2 := blk ⟨b.2.p + 1, b.2.vars, b.2.next, b.2.left⟩
      ([.mk 5 ⟨#[]⟩ [e.1] b.1 b2.1], b2.2)
    else ([.mk 5 ⟨#[]⟩ [e.1] b.1 []], ⟨b.2.p + 1, b.2.vars, b.2.next, b.2.left⟩)
  else if v = 11 then
    if pickF bs 3 p = 0 then ([.mk 7 ⟨#[]⟩ [(gexprF bs fns vars 2 (p + 1)).1] [] []], ⟨(gexprF bs fns vars 2 (p + 1)).2, vars, next, left⟩)
    else loop ⟨p + 1, vars, next, left⟩
  else loop ⟨p, vars, next, left⟩
def someF (bs : List Int) (fns : List FnD) (blk loop : GS → List StmtD × GS) (dq : Int) (s : GS) : List StmtD × GS := someV bs fns blk loop dq (pickF bs 13 s.p) s.vars s.next (s.left - 1) (s.p + 1)
/-- The variables' list stays away from what it was away from. -/
def VKeep (br bg : Nat) (w : World) (va : Option Addr) (vars : List ByteArray) (w' : World) (va' : Option Addr) (vars' : List ByteArray) : Prop :=
  ∀ Z : Nat → Prop, (∀ k, Z k → k < w.heap.size) → ListK 1 strP (fun k => k ≠ br ∧ k ≠ bg ∧ ¬ Z k) w va vars → ListK 1 strP (fun k => k ≠ br ∧ k ≠ bg ∧ ¬ Z k) w' va' vars'
section
variable {br bg : Nat} {w w' w'' : World} {va va' va'' : Option Addr} {vars vars' vars'' : List ByteArray}
theorem VKeep.same (ht : Turn2 br bg w w') : VKeep br bg w va vars w' va vars := fun Z hZ h => ht.list strP_stays h (fun k h => ⟨h.1, h.2.1⟩)
theorem VKeep.trans (h : VKeep br bg w va vars w' va' vars') (hs : w.heap.size ≤ w'.heap.size) (k : VKeep br bg w' va' vars' w'' va'' vars'') : VKeep br bg w va vars w'' va'' vars'' := fun Z hZ hv => k Z (fun i hi => Nat.lt_of_lt_of_le (hZ i hi) hs) (h Z hZ hv)
theorem VKeep.new (h : ListK 1 strP (fun k => w.heap.size ≤ k) w' va' vars') (hl : br < w.heap.size ∧ bg < w.heap.size) : VKeep br bg w va vars w' va' vars' := fun Z hZ _ => h.mono strP_stays (fun k _ hk => ⟨by have hk : w.heap.size ≤ k := hk; omega, by have hk : w.heap.size ≤ k := hk; omega, fun hz => by have := hZ k hz; have hk : w.heap.size ≤ k := hk; omega⟩)
theorem turnV (ht : Turn2 br bg w w') : VKeep br bg w va vars w' va vars ∧ Turn2 br bg w w' := ⟨VKeep.same ht, ht⟩
end

section
variable (w0 w : World) (br bg : Nat) (a : Option Addr) (len cap : Nat) (bs : List Int) (fa : Option Addr) (fc : Nat) (fns : List FnD)
/-- What a drawn statement's call gives. -/
def SomeP (va : Option Addr) (vars : List ByteArray) (next left : Int) (F : GS → List StmtD × GS) (u d : Nat) (e : Ending) (w' : World) : Prop :=
  ∃ (b' : Option Addr) (c : Nat) (xs : List StmtD) (va' : Option Addr) (vc' : Nat) (vars' : List ByteArray) (next' left' : Int), e = .returned (.slice b' xs.length c) ∧ xs.length ≤ 2 ∧ (b' = none → c = 0) ∧ ListK 5 (StmtP d) (fun k => w.heap.size ≤ k) w' b' xs ∧ GSt w0 br bg a len cap bs fa fc fns u va' vc' vars' next' left' w' ∧ (va' = none → vc' = 0) ∧ VKeep br bg w va vars w' va' vars' ∧ Turn2 br bg w w' ∧ F ⟨posOf w br, vars, next, left⟩ = (xs, ⟨posOf w' br, vars', next', left'⟩)
/-- What a drawn block's call gives. -/
def BlockP (u d : Nat) (va : Option Addr) (vc : Nat) (vars : List ByteArray) (next left : Int) (F : GS → List StmtD × GS) (e : Ending) (w' : World) : Prop :=
  ∃ (b' : Option Addr) (c : Nat) (xs : List StmtD) (next' left' : Int), e = .returned (.slice b' xs.length c) ∧ xs.length ≤ 8 ∧ GrowK 5 (StmtP d) 57 (fun k => w.heap.size ≤ k) w.heap.size w' b' xs.length c xs ∧ GSt w0 br bg a len cap bs fa fc fns u va vc vars next' left' w' ∧ Turn2 br bg w w' ∧ F ⟨posOf w br, vars, next, left⟩ = (xs, ⟨posOf w' br, vars, next', left'⟩)
end
section
variable (w0 : World) (br bg : Nat) (a : Option Addr) (len cap : Nat) (bs : List Int) (fa : Option Addr) (fc : Nat) (fns : List FnD)
def SomeC (dq : Int) (d cost : Nat) (F : GS → List StmtD × GS) : Prop := ∀ (u : Nat) (va : Option Addr) (vc : Nat) (vars : List ByteArray) (next left : Int) (w : World), GSt w0 br bg a len cap bs fa fc fns u va vc vars next left w → (va = none → vc = 0) → u + cost ≤ 990000 →
  Calls Tryd.prog 59 #[.pointer (some ⟨bg, 0, none⟩), .int .i64 dq] w (SomeP w0 w br bg a len cap bs fa fc fns va vars next left F (u + cost) d)
def BlockC (dq : Int) (d cost : Nat) (F : GS → List StmtD × GS) : Prop := ∀ (u : Nat) (va : Option Addr) (vc : Nat) (vars : List ByteArray) (next left : Int) (w : World), GSt w0 br bg a len cap bs fa fc fns u va vc vars next left w → (va = none → vc = 0) → u + cost ≤ 990000 →
  Calls Tryd.prog 52 #[.pointer (some ⟨bg, 0, none⟩), .int .i64 dq] w (BlockP w0 w br bg a len cap bs fa fc fns (u + cost) d va vc vars next left F)
def LoopC (dq : Int) (d cost : Nat) (F : GS → List StmtD × GS) : Prop := ∀ (u : Nat) (va : Option Addr) (vc : Nat) (vars : List ByteArray) (next left : Int) (w : World), GSt w0 br bg a len cap bs fa fc fns u va vc vars next left w → (va = none → vc = 0) → u + cost ≤ 990000 →
  Calls Tryd.prog 67 #[.pointer (some ⟨bg, 0, none⟩), .int .i64 dq] w (SomeP w0 w br bg a len cap bs fa fc fns va vars next left F (u + cost) d)
end

section
variable {w0 w : World} {br bg : Nat} {a : Option Addr} {len cap : Nat} {bs : List Int} {fa : Option Addr} {fc : Nat} {fns : List FnD} {va : Option Addr} {vc : Nat} {vars : List ByteArray} {next left next' left' : Int}
/-- A statement with a body is being made, in a block of its own. -/
structure IfSt (w0 w : World) (br bg : Nat) (a : Option Addr) (len cap : Nat) (bs : List Int) (fa : Option Addr) (fc : Nat) (fns : List FnD) (va : Option Addr) (vc : Nat) (vars : List ByteArray) (next left : Int) (d u sb ab : Nat) (y : ExprD) (ba ea : Option Addr) (bc ec : Nat) (xs ys : List StmtD) (wr : World) : Prop where
  g : GSt w0 br bg a len cap bs fa fc fns u va vc vars next left wr
  t : Turn2 br bg w wr
  lt : br < w.heap.size ∧ bg < w.heap.size ∧ w0.heap.size ≤ w.heap.size ∧ w.heap.size ≤ sb
  row : wr.heap[sb]? = some (.cells #[.int .i64 5, .string ⟨#[]⟩, .slice (some ⟨ab, 0, none⟩) 1 1, .slice ba xs.length bc, .slice ea ys.length ec] 57 (0, 0))
  args : ListK 4 (exprK 12) (fun k => w.heap.size ≤ k ∧ k ≠ sb) wr (some ⟨ab, 0, none⟩) [y]
  body : ListK 5 (StmtP d) (fun k => w.heap.size ≤ k ∧ k ≠ sb) wr ba xs
  els : ListK 5 (StmtP d) (fun k => w.heap.size ≤ k ∧ k ≠ sb) wr ea ys
  vlow : ListK 1 strP (fun k => k ≠ br ∧ k ≠ bg ∧ k ≠ sb) wr va vars
  flow : ListK 3 (FnP 20) (fun k => k ≠ br ∧ k ≠ bg ∧ k ≠ sb) wr fa fns
  small : xs.length ≤ 8 ∧ ys.length ≤ 8
variable {d u u' sb ab : Nat} {y : ExprD} {ba ea ea' : Option Addr} {bc ec ec' : Nat} {xs ys ys' : List StmtD} {wr w' : World}
theorem IfSt.start (hg : GSt w0 br bg a len cap bs fa fc fns u va vc vars next left wr) (hw : br < w.heap.size ∧ bg < w.heap.size) (ht : Turn2 br bg w wr) (ha : ListK 4 (exprK 12) (fun k => w.heap.size ≤ k) wr (some ⟨ab, 0, none⟩) [y]) (hb : ListK 5 (StmtP d) (fun k => w.heap.size ≤ k) wr ba xs) (hl : xs.length ≤ 8) (hw0 : w0.heap.size ≤ w.heap.size) :
    IfSt w0 w br bg a len cap bs fa fc fns va vc vars next left d u wr.heap.size ab y ba none bc 0 xs [] (wr.alloc (.cells #[.int .i64 5, .string ⟨#[]⟩, .slice (some ⟨ab, 0, none⟩) 1 1, .slice ba xs.length bc, .slice none 0 0] 57)) := by
  have hba : Below wr.heap.size wr (wr.alloc (.cells #[.int .i64 5, .string ⟨#[]⟩, .slice (some ⟨ab, 0, none⟩) 1 1, .slice ba xs.length bc, .slice none 0 0] 57)) := (Below.refl _ _).alloc (Nat.le_refl _) _
  refine ⟨hg.alloc _, ht.trans (Turn2.alloc _ _), ⟨hw.1, hw.2, hw0, ht.size⟩, heap_alloc_new wr _, ?_, ?_, ListK.nil _ _ _, ?_, ?_, hl, Nat.zero_le _⟩
  · exact ((ha.here (exprK_stays 12)).mono (exprK_stays 12) (fun k _ h => ⟨h.1, by have := h.2; omega⟩)).below (exprK_stays 12) hba
  · exact ((hb.here (stmtP_stays d)).mono (stmtP_stays d) (fun k _ h => ⟨h.1, by have := h.2; omega⟩)).below (stmtP_stays d) hba
  · exact ((hg.vlist.here strP_stays).mono strP_stays (fun k _ h => ⟨h.1.1, h.1.2, by have := h.2; omega⟩)).below strP_stays hba
  · exact ((hg.flist.here (fnP_stays 20)).mono (fnP_stays 20) (fun k _ h => ⟨h.1.1, h.1.2, by have := h.2; omega⟩)).below (fnP_stays 20) hba
theorem IfSt.step2 (h : IfSt w0 w br bg a len cap bs fa fc fns va vc vars next left d u sb ab y ba ea bc ec xs ys wr) (ht : Turn2 br bg wr w') (hg : GSt w0 br bg a len cap bs fa fc fns u' va vc vars next' left' w') : IfSt w0 w br bg a len cap bs fa fc fns va vc vars next' left' d u' sb ab y ba ea bc ec xs ys w' := by
  have hl := h.lt
  have hs : sb < wr.heap.size := (Array.getElem?_eq_some_iff.1 h.row).1
  have hne : ∀ k, (w.heap.size ≤ k ∧ k ≠ sb) → k ≠ br ∧ k ≠ bg := fun k hk => ⟨by omega, by omega⟩
  exact ⟨hg, h.t.trans ht, hl, (ht.block hs (by omega) (by omega)).trans h.row, ht.list (exprK_stays 12) h.args hne, ht.list (stmtP_stays d) h.body hne, ht.list (stmtP_stays d) h.els hne, ht.list strP_stays h.vlow (fun k h => ⟨h.1, h.2.1⟩), ht.list (fnP_stays 20) h.flow (fun k h => ⟨h.1, h.2.1⟩), h.small⟩
theorem IfSt.put (h : IfSt w0 w br bg a len cap bs fa fc fns va vc vars next left d u sb ab y ba ea bc ec xs ys wr) (he : ListK 5 (StmtP d) (fun k => w.heap.size ≤ k ∧ k ≠ sb) wr ea' ys') (hl : ys'.length ≤ 8) : IfSt w0 w br bg a len cap bs fa fc fns va vc vars next left d u sb ab y ba ea' bc ec' xs ys' (wr.setCell ⟨sb, 4, none⟩ (.slice ea' ys'.length ec')) := by
  have ht := turned_store wr sb 4 (.slice ea' ys'.length ec')
  have hlt := h.lt
  have hn : ∀ k, k < wr.heap.size → (w.heap.size ≤ k ∧ k ≠ sb) → ¬ k = sb := fun k _ hk => hk.2
  have hv := h.vlow.turned strP_stays ht (fun k _ h1 => h1.2.2)
  have hf := h.flow.turned (fnP_stays 20) ht (fun k _ h1 => h1.2.2)
  exact ⟨h.g.other ht (fun k _ hk => by omega) (hv.mono strP_stays (fun k _ h => ⟨h.1, h.2.1⟩)) (hf.mono (fnP_stays 20) (fun k _ h => ⟨h.1, h.2.1⟩)), Turned.trans (S := fun k => k = br ∨ k = bg ∨ w.heap.size ≤ k) h.t (ht.mono (fun k hk => by omega)), hlt, (heap_setCell_same wr sb 4 _ _ _ h.row).trans rfl, h.args.turned (exprK_stays 12) ht hn, h.body.turned (stmtP_stays d) ht hn, he.turned (stmtP_stays d) ht hn, hv, hf, h.small.1, hl⟩
theorem IfSt.fin (h : IfSt w0 w br bg a len cap bs fa fc fns va vc vars next left d u sb ab y ba ea bc ec xs ys wr) :
    StmtP (d + 1) (fun k => w.heap.size ≤ k) wr [.int .i64 5, .string ⟨#[]⟩, .slice (some ⟨ab, 0, none⟩) 1 1, .slice ba xs.length bc, .slice ea ys.length ec] (.mk 5 ⟨#[]⟩ [y] xs ys) :=
  ⟨_, _, _, _, _, _, rfl, ⟨Nat.zero_le _, (by decide : (-9223372036854775808 : Int) ≤ 5), (by decide : (5 : Int) ≤ 9223372036854775807), (by decide : (1 : Nat) ≤ 100), Nat.le_trans h.small.1 (by decide), Nat.le_trans h.small.2 (by decide)⟩, h.args.mono (exprK_stays 12) (fun k _ h => h.1), h.body.mono (stmtP_stays d) (fun k _ h => h.1), h.els.mono (stmtP_stays d) (fun k _ h => h.1)⟩
end

end Go.Proofs.YtccdmgncjlpebaaDoor
