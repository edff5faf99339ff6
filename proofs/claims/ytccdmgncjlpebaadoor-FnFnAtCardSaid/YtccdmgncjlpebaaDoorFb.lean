/-
  The drawn program as a function of the reader's bytes: the functions themselves; where the reader stands.
-/
import Derived.Test.YtccdmgncjlpebaaDoorDr4
import Derived.Test.YtccdmgncjlpebaaDoorVs

namespace Go.Proofs.YtccdmgncjlpebaaDoor
open Go.RowKit
set_option linter.unusedVariables false

/-- Where the reader stands. -/
def intAt : Option Value → Nat
  | some (Value.int _ p) => p.toNat
  | _ => 0
def posOf (w : World) (br : Nat) : Nat := intAt (w.cell? ⟨br, 1, none⟩)
theorem Rd.pos {w0 w : World} {br : Nat} {a : Option Addr} {len cap : Nat} {bs : List Int} {p : Nat} (h : Rd w0 w br a len cap bs p) : posOf w br = p := by
  have h1 : w.cell? ⟨br, 1, none⟩ = some (.int .i64 p) := by rw [cell_of_row w br 1 _ _ _ h.blk]; rfl
  simp [posOf, h1, intAt]
theorem posOf_block {w w' : World} {br : Nat} (h : w'.heap[br]? = w.heap[br]?) : posOf w' br = posOf w br := by rw [posOf, World.cell?_of_block h]; rfl
theorem posOf_below {w w' : World} {br : Nat} (hb : Below w.heap.size w w') (h : br < w.heap.size) : posOf w' br = posOf w br := posOf_block (hb.block br h)
theorem posOf_set {w : World} {br g i : Nat} {v : Value} (h : br ≠ g) : posOf (w.setCell ⟨g, i, none⟩ v) br = posOf w br := posOf_block (heap_setCell_other w _ _ _ h)
theorem posOf_sets {w : World} {br g i : Nat} {vs : List Value} (h : br ≠ g) : posOf (w.setCells g i vs) br = posOf w br := posOf_block (heap_setCells_other h _ _ _)
theorem posOf_turned {T : Nat → Prop} {w w' : World} {br : Nat} (ht : Turned T w w') (h : br < w.heap.size) (hT : ¬ T br) : posOf w' br = posOf w br := posOf_block (ht.block br h hT)

def lettersF : ByteArray := ⟨#[97, 98, 99, 100, 101, 103, 104, 105, 106, 107, 108, 109, 110, 112, 113, 114, 115, 116, 117, 118, 119, 120, 121, 122]⟩
/-- A name: next is one more already. -/
def freshF (bs : List Int) (vars : List ByteArray) (next : Int) (p : Nat) : ByteArray × Nat :=
  if pickF bs 9 p = 0 ∧ 0 < vars.length then (ofF bs vars (p + 1), p + 2)
  else (ByteArray.extract lettersF (next.toNat % 24) (next.toNat % 24 + 1), p + 1)
def gexprF (bs : List Int) (fns : List FnD) (vars : List ByteArray) (deep p : Nat) : ExprD × Nat :=
  let r := exprF bs vars deep p
  if fns.length = 0 then r
  else if 0 < pickF bs 4 r.2 then (r.1, r.2 + 1)
  else
    let f := fns.getD (pickF bs (fns.length : Int) (r.2 + 1)).toNat ⟨⟨#[]⟩, [], []⟩
    let ks := manyF (exprF bs vars 2) f.params.length (r.2 + 2)
    let c : ExprD := .mk 13 0 f.name ks.1
    if pickF bs 2 ks.2 = 0 then (c, ks.2 + 1)
    else
      let e := exprF bs vars 2 (ks.2 + 2)
      (.mk (numF bs [3, 4, 8, 10] (ks.2 + 1)) 0 ⟨#[]⟩ [c, e.1], e.2)
theorem gexprF_none {bs : List Int} {fns : List FnD} {vars : List ByteArray} {deep p q : Nat} {x : ExprD} (h : exprF bs vars deep p = (x, q)) (hf : fns.length = 0) : gexprF bs fns vars deep p = (x, q) := by
  simp only [gexprF, h, if_pos hf]
theorem gexprF_low {bs : List Int} {fns : List FnD} {vars : List ByteArray} {deep p q : Nat} {x : ExprD} {v : Int} (h : exprF bs vars deep p = (x, q)) (hf : ¬ fns.length = 0) (hv : pickF bs 4 q = v) (h0 : 0 < v) : gexprF bs fns vars deep p = (x, q + 1) := by
  simp only [gexprF, h, if_neg hf, hv, if_pos h0]
theorem gexprF_call {bs : List Int} {fns : List FnD} {vars : List ByteArray} {deep p q q2 j : Nat} {x : ExprD} {v : Int} {f : FnD} {ks : List ExprD} (h : exprF bs vars deep p = (x, q)) (hf : ¬ fns.length = 0) (hv : pickF bs 4 q = v) (h0 : ¬ 0 < v)
    (hj : pickF bs (fns.length : Int) (q + 1) = (j : Int)) (hfj : fns[j]? = some f) (hk : manyF (exprF bs vars 2) f.params.length (q + 2) = (ks, q2)) :
    gexprF bs fns vars deep p = if pickF bs 2 q2 = 0 then (.mk 13 0 f.name ks, q2 + 1) else (.mk (numF bs [3, 4, 8, 10] (q2 + 1)) 0 ⟨#[]⟩ [.mk 13 0 f.name ks, (exprF bs vars 2 (q2 + 2)).1], (exprF bs vars 2 (q2 + 2)).2) := by
  have hg : fns.getD j ⟨⟨#[]⟩, [], []⟩ = f := by simp [List.getD, hfj]
  simp only [gexprF, h, if_neg hf, hv, if_neg h0, hj, Int.toNat_natCast, hg, hk]
def cellF (bs : List Int) (fns : List FnD) (vars : List ByteArray) (p : Nat) : ExprD × Nat :=
  let r := gexprF bs fns vars 2 p
  (.mk 7 0 ⟨#[]⟩ [r.1, .mk 1 (numF bs [16, 16, 16, 8, 17, 0] r.2) ⟨#[]⟩ []], r.2 + 1)

/-- The drawing's state: where the reader stands, the variables, the last name's number, what may still be drawn. -/
structure GS where
  p : Nat
  vars : List ByteArray
  next : Int
  left : Int
def letF (bs : List Int) (e : ExprD) (s : GS) : StmtD × GS :=
  let r := freshF bs s.vars (s.next + 1) s.p
  (.mk 1 r.1 [e] [] [], ⟨r.2, s.vars ++ [r.1], s.next + 1, s.left⟩)
def loopF (bs : List Int) (blk : GS → List StmtD × GS) (s : GS) : List StmtD × GS :=
  let f := letF bs (.mk 1 (numF bs [2, 3, 1, 0, 5] s.p) ⟨#[]⟩ []) { s with p := s.p + 1 }
  let b := blk f.2
  let i : ExprD := .mk 2 0 f.1.name []
  ([f.1, .mk 6 ⟨#[]⟩ [i] (b.1 ++ [.mk 2 f.1.name [.mk 4 0 ⟨#[]⟩ [i, .mk 1 1 ⟨#[]⟩ []]] [] []]) []], { b.2 with left := b.2.left - 2 })
def roundsF (some : GS → List StmtD × GS) : Nat → List StmtD → GS → List StmtD × GS
  | 0, out, s => (out, s)
  | k + 1, out, s => if 0 < s.left then roundsF some k (out ++ (some s).1) (some s).2 else (out, s)
def blockF (bs : List Int) (some : GS → List StmtD × GS) (s : GS) : List StmtD × GS :=
  let r := roundsF some (numF bs [2, 3, 1, 4] s.p).toNat [] { s with p := s.p + 1 }
  (r.1, { r.2 with vars := s.vars })

end Go.Proofs.YtccdmgncjlpebaaDoor
