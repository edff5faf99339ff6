/-
  Expressions: what they are, how they lie, which are ones (plain).
-/
import Derived.Test.YtccdmgncjlpebaaDoorCore

namespace Go.Proofs.YtccdmgncjlpebaaDoor
open Go.RowKit

inductive ExprD where
  | mk (op n : Int) (name : ByteArray) (kids : List ExprD)
deriving Inhabited
def ExprD.op : ExprD → Int | .mk op _ _ _ => op
def ExprD.n : ExprD → Int | .mk _ n _ _ => n
def ExprD.name : ExprD → ByteArray | .mk _ _ s _ => s
def ExprD.kids : ExprD → List ExprD | .mk _ _ _ ks => ks

/-- An expression, at most so deep, lies in some cells. -/
def ExprAt : Nat → World → List Value → ExprD → Prop
  | 0, _, _, _ => False
  | d + 1, w, cs, e => ∃ a c, cs = [.int .i64 e.op, .int .i64 e.n, .string e.name, .slice a e.kids.length c] ∧ (e.kids.length ≤ maxLen ∧ -9223372036854775808 ≤ e.op ∧ e.op ≤ 9223372036854775807) ∧ SliceRd 4 (ExprAt d) w a e.kids.length e.kids
theorem exprAt_lasts : ∀ d, Lasts (ExprAt d)
  | 0 => fun _ _ _ _ _ h => h
  | d + 1 => fun w w' c x hb h => by
    obtain ⟨a, n, h1, h2, h3⟩ := h
    exact ⟨a, n, h1, h2, h3.later (exprAt_lasts d) hb⟩
/-- A part of an expression lies in its list. -/
theorem kid_place {d : Nat} {w : World} {a : Option Addr} {n : Nat} {ks : List ExprD} (h : SliceRd 4 (ExprAt d) w a n ks) {i : Nat} (hi : i < n) :
    ∃ b off k cs, a = some ⟨b, off, none⟩ ∧ ks[i]? = some k ∧ ExprAt d w cs k ∧ ∃ ka kc, cs = [.int .i64 k.op, .int .i64 k.n, .string k.name, .slice ka k.kids.length kc] ∧
      w.cell? ⟨b, off + i * 4, none⟩ = some (.int .i64 k.op) ∧ w.cell? ⟨b, off + i * 4 + 1, none⟩ = some (.int .i64 k.n) ∧ w.cell? ⟨b, off + i * 4 + 2, none⟩ = some (.string k.name) ∧ w.cell? ⟨b, off + i * 4 + 3, none⟩ = some (.slice ka k.kids.length kc) := by
  obtain ⟨b, off, cs, k, rfl, hk, hl, hc, hR⟩ := h.place (by decide) hi
  cases d with
  | zero => exact hR.elim
  | succ d =>
    have hR2 := hR
    obtain ⟨ka, kc, rfl, _, _⟩ := hR2
    exact ⟨b, off, k, _, rfl, hk, hR, ka, kc, rfl, hc 0 _ rfl, hc 1 _ rfl, hc 2 _ rfl, hc 3 _ rfl⟩

/-- The level of an op between two, in the table; the level of an op. -/
def lvl (op : Int) : Int := if op = 3 ∨ op = 4 then 3 else if op = 5 ∨ op = 6 ∨ op = 7 then 4 else if op = 8 ∨ op = 9 then 2 else if op = 10 then 1 else 0
def levelI (op : Int) : Int := if 0 < lvl op then lvl op else if op = 11 ∨ op = 12 then 5 else 6
def inE (lo x hi : Int) : Bool := decide (lo ≤ x) && decide (x ≤ hi)
/-- What a part must be by itself, names left open. -/
def headB (nameB : ByteArray → Bool) (op n : Int) (name : ByteArray) (k : Nat) : Bool :=
  if op = 1 then inE 0 n 255 && (name.toList.isEmpty && k == 0)
  else if op = 2 then nameB name && (n == 0 && k == 0)
  else if op = 13 then nameB name && (n == 0 && decide (k ≤ 3))
  else if 0 < lvl op then n == 0 && (name.toList.isEmpty && k == 2)
  else if op = 11 ∨ op = 12 then n == 0 && (name.toList.isEmpty && k == 1)
  else false
def foldSz (f : ExprD → Option (Nat × Nat)) : List ExprD → Nat → Nat → Option (Nat × Nat)
  | [], p, d => if p ≤ 30 then some (p, d) else none
  | k :: ks, p, d => match f k with
    | none => none
    | some (n, d') => foldSz f ks (p + n) (max d (d' + 1))
/-- How many parts, how deep; none: not valid, or deeper than so much. -/
def sizeD (nameB : ByteArray → Bool) : Nat → ExprD → Option (Nat × Nat)
  | 0, _ => none
  | m + 1, e => if headB nameB e.op e.n e.name e.kids.length then foldSz (sizeD nameB m) e.kids 1 1 else none
theorem foldSz_small {f : ExprD → Option (Nat × Nat)} : ∀ (ks : List ExprD) (p d : Nat) (q : Nat × Nat), foldSz f ks p d = some q → q.1 ≤ 30
  | [], p, d, q, h => by
    rw [foldSz] at h
    split at h
    · cases h; assumption
    · cases h
  | k :: ks, p, d, q, h => by
    rw [foldSz] at h
    split at h
    · cases h
    · exact foldSz_small ks _ _ q h
theorem sizeD_small {nameB : ByteArray → Bool} {m : Nat} {e : ExprD} {q : Nat × Nat} (h : sizeD nameB m e = some q) : q.1 ≤ 30 := by
  cases m with
  | zero => cases h
  | succ m =>
    rw [sizeD] at h
    split at h
    · exact foldSz_small _ _ _ _ h
    · cases h
theorem foldSz_deep {f : ExprD → Option (Nat × Nat)} {m : Nat} (hf : ∀ e q, f e = some q → q.2 ≤ m) : ∀ (ks : List ExprD) (p d : Nat) (q : Nat × Nat), d ≤ m + 1 → foldSz f ks p d = some q → q.2 ≤ m + 1
  | [], p, d, q, hd, h => by
    rw [foldSz] at h
    split at h
    · cases h; exact hd
    · cases h
  | k :: ks, p, d, q, hd, h => by
    rw [foldSz] at h
    split at h
    · cases h
    · rename_i x n d' hk
      have := hf k _ hk
      exact foldSz_deep hf ks _ _ q (by simp only at this; omega) h
theorem sizeD_deep {nameB : ByteArray → Bool} : ∀ (m : Nat) (e : ExprD) (q : Nat × Nat), sizeD nameB m e = some q → q.2 ≤ m
  | 0, _, _, h => by cases h
  | m + 1, e, q, h => by
    rw [sizeD] at h
    split at h
    · exact foldSz_deep (sizeD_deep m) _ _ _ _ (by omega) h
    · cases h
theorem sizeD_head {nameB : ByteArray → Bool} {m : Nat} {e : ExprD} (h : headB nameB e.op e.n e.name e.kids.length = false) : sizeD nameB m e = none := by
  cases m with
  | zero => rfl
  | succ m => rw [sizeD, if_neg (by simp [h])]
/-- The table of the ops between two. -/
def OpsAt (w : World) : Prop := ∃ bm o, w.cell? ⟨1, 0, none⟩ = some (.map (some bm)) ∧ w.heap[bm]? = some o ∧
  ∀ W : World, W.heap[bm]? = some o → ∀ op : Int, -9223372036854775808 ≤ op ∧ op ≤ 9223372036854775807 → ∃ s, (Instr.lookup 93 (.map (some bm)) (.int .i64 op) false).run Tryd.prog W = .ok (.agg #[.string s, .int .i64 (lvl op)]) W
theorem OpsAt.later {w w' : World} (h : OpsAt w) (hb : Below w.heap.size w w') : OpsAt w' := by
  obtain ⟨bm, o, h1, h2, h3⟩ := h
  exact ⟨bm, o, cell_later hb h1, (hb.block _ (Array.getElem?_eq_some_iff.1 h2).1).trans h2, h3⟩

end Go.Proofs.YtccdmgncjlpebaaDoor
