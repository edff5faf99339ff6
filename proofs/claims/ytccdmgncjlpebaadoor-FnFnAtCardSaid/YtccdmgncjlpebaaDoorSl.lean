/-
  Statements, functions and programs as data; how they read in memory.
-/
import Derived.Test.YtccdmgncjlpebaaDoorGk
import Derived.Test.YtccdmgncjlpebaaDoorPe1
import Derived.Test.YtccdmgncjlpebaaDoorEs2
import Derived.Test.YtccdmgncjlpebaaDoorDr2

namespace Go.Proofs.YtccdmgncjlpebaaDoor
open Go.RowKit
set_option linter.unusedVariables false

inductive StmtD where
  | mk (op : Int) (name : ByteArray) (args : List ExprD) (body els : List StmtD)
namespace StmtD
def op : StmtD → Int | .mk o _ _ _ _ => o
def name : StmtD → ByteArray | .mk _ n _ _ _ => n
def args : StmtD → List ExprD | .mk _ _ a _ _ => a
def body : StmtD → List StmtD | .mk _ _ _ b _ => b
def els : StmtD → List StmtD | .mk _ _ _ _ e => e
end StmtD
structure FnD where
  name : ByteArray
  params : List ByteArray
  body : List StmtD

/-- A text in a cell. -/
def strP : InRel ByteArray := fun _ _ c x => c = [.string x] ∧ x.size ≤ maxLen
theorem strP_stays : Stays 1 strP := ⟨fun _ h => h, fun _ _ h => h, fun h => by rw [h.1]; rfl⟩
/-- An expression, at most so deep, whose names are not too long. -/
def exprK (d : Nat) : InRel ExprD := fun S w c x => ExprP d S w c x ∧ anyE longP d x = false
theorem exprK_stays (d : Nat) : Stays 4 (exprK d) := ⟨fun hS h => ⟨exprP_mono hS h.1, h.2⟩, fun ht hS h => ⟨exprP_turned ht hS h.1, h.2⟩, fun h => exprP_len h.1⟩
theorem exprK_le {d d' : Nat} (hd : d ≤ d') {S : Nat → Prop} {w : World} {c : List Value} {x : ExprD} (h : exprK d S w c x) : exprK d' S w c x := ⟨exprP_le hd h.1, by rw [anyE_deep h.1 hd]; exact h.2⟩
/-- A statement, at most so deep. -/
def StmtP : Nat → InRel StmtD
  | 0 => fun _ _ _ _ => False
  | d + 1 => fun S w c x => ∃ aa ac ba bc ea ec, c = [.int .i64 x.op, .string x.name, .slice aa x.args.length ac, .slice ba x.body.length bc, .slice ea x.els.length ec] ∧
      (x.name.size ≤ maxLen ∧ -9223372036854775808 ≤ x.op ∧ x.op ≤ 9223372036854775807 ∧ x.args.length ≤ 100 ∧ x.body.length ≤ 100 ∧ x.els.length ≤ 100) ∧
      ListK 4 (exprK 12) S w aa x.args ∧ ListK 5 (StmtP d) S w ba x.body ∧ ListK 5 (StmtP d) S w ea x.els
theorem stmtP_len : ∀ {d : Nat} {S : Nat → Prop} {w : World} {c : List Value} {x : StmtD}, StmtP d S w c x → c.length = 5
  | 0, _, _, _, _, h => h.elim
  | d + 1, _, _, _, _, ⟨_, _, _, _, _, _, rfl, _⟩ => rfl
theorem stmtP_stays : ∀ d, Stays 5 (StmtP d)
  | 0 => ⟨fun _ h => h.elim, fun _ _ h => h.elim, fun h => h.elim⟩
  | d + 1 => ⟨fun hS ⟨aa, ac, ba, bc, ea, ec, h1, h2, h3, h4, h5⟩ => ⟨aa, ac, ba, bc, ea, ec, h1, h2, h3.mono (exprK_stays 12) hS, h4.mono (stmtP_stays d) hS, h5.mono (stmtP_stays d) hS⟩,
      fun ht hS ⟨aa, ac, ba, bc, ea, ec, h1, h2, h3, h4, h5⟩ => ⟨aa, ac, ba, bc, ea, ec, h1, h2, h3.turned (exprK_stays 12) ht hS, h4.turned (stmtP_stays d) ht hS, h5.turned (stmtP_stays d) ht hS⟩,
      stmtP_len⟩
theorem ListK.rel {α : Type} {s : Nat} {R R' : InRel α} {S : Nat → Prop} {w : World} {a : Option Addr} {xs : List α} (h : ListK s R S w a xs) (hR : ∀ c x, x ∈ xs → R S w c x → R' S w c x) : ListK s R' S w a xs := ⟨sliceRd_mono' h.rd hR, h.blk⟩
theorem stmtP_more : ∀ {d : Nat} {S : Nat → Prop} {w : World} {c : List Value} {x : StmtD}, StmtP d S w c x → StmtP (d + 1) S w c x
  | 0, _, _, _, _, h => h.elim
  | d + 1, S, w, c, x, ⟨aa, ac, ba, bc, ea, ec, h1, h2, h3, h4, h5⟩ => ⟨aa, ac, ba, bc, ea, ec, h1, h2, h3, h4.rel (fun _ _ _ h => stmtP_more h), h5.rel (fun _ _ _ h => stmtP_more h)⟩
theorem stmtP_le {d d' : Nat} (hd : d ≤ d') {S : Nat → Prop} {w : World} {c : List Value} {x : StmtD} (h : StmtP d S w c x) : StmtP d' S w c x := by
  induction d' with
  | zero => obtain rfl : d = 0 := by omega
            exact h
  | succ n ih =>
    by_cases he : d = n + 1
    · subst he; exact h
    · exact stmtP_more (ih (by omega))
/-- A function. -/
def FnP (d : Nat) : InRel FnD := fun S w c x => ∃ pa pc ba bc, c = [.string x.name, .slice pa x.params.length pc, .slice ba x.body.length bc] ∧ (x.name.size ≤ maxLen ∧ x.params.length ≤ 100 ∧ x.body.length ≤ 100) ∧
      ListK 1 strP S w pa x.params ∧ ListK 5 (StmtP d) S w ba x.body
theorem fnP_stays (d : Nat) : Stays 3 (FnP d) :=
  ⟨fun hS ⟨pa, pc, ba, bc, h1, h2, h3, h4⟩ => ⟨pa, pc, ba, bc, h1, h2, h3.mono strP_stays hS, h4.mono (stmtP_stays d) hS⟩,
   fun ht hS ⟨pa, pc, ba, bc, h1, h2, h3, h4⟩ => ⟨pa, pc, ba, bc, h1, h2, h3.turned strP_stays ht hS, h4.turned (stmtP_stays d) ht hS⟩,
   fun ⟨_, _, _, _, h1, _⟩ => by rw [h1]; rfl⟩
theorem fnP_le {d d' : Nat} (hd : d ≤ d') {S : Nat → Prop} {w : World} {c : List Value} {x : FnD} (h : FnP d S w c x) : FnP d' S w c x := by
  obtain ⟨pa, pc, ba, bc, h1, h2, h3, h4⟩ := h
  exact ⟨pa, pc, ba, bc, h1, h2, h3, h4.rel (fun _ _ _ h => stmtP_le hd h)⟩

/-! ### what is valid -/
def validE (x : ExprD) : Bool := (sizeD nameD 6 x).isSome
def headS (op : Int) (name : ByteArray) (na nb ne : Nat) : Bool :=
  inE 1 op 8 && (na == (if op = 4 then 2 else 1)) && (if op = 1 ∨ op = 2 then nameD name else name.toList.isEmpty) && (op == 5 || ne == 0) && (op == 5 || op == 6 || nb == 0)
def ownS (s : StmtD) : Bool := headS s.op s.name s.args.length s.body.length s.els.length && s.args.all validE && (!(s.op == 8) || (s.args.getD 0 default).op == 13)
def stmtB : Nat → StmtD → Bool
  | 0, _ => false
  | d + 1, s => ownS s && s.body.all (stmtB d) && s.els.all (stmtB d)
def fnB (f : FnD) : Bool := nameD f.name && decide (f.params.length ≤ 3) && f.params.all nameD && f.body.all (stmtB 4)
def sumN {α : Type} (f : α → Nat) : List α → Nat
  | [] => 0
  | x :: xs => f x + sumN f xs
def maxN {α : Type} (f : α → Nat) : List α → Nat
  | [] => 0
  | x :: xs => max (f x) (maxN f xs)
/-- How many statements there are in one, it with them. -/
def cntS : Nat → StmtD → Nat
  | 0, _ => 0
  | d + 1, s => 1 + sumN (cntS d) s.body + sumN (cntS d) s.els
/-- How deep they are nested. -/
def nestS : Nat → StmtD → Nat
  | 0, _ => 0
  | d + 1, s => 1 + max (maxN (nestS d) s.body) (maxN (nestS d) s.els)
def cntP (p : List FnD) : Nat := sumN (fun f => sumN (cntS 4) f.body) p
def nestP (p : List FnD) : Nat := maxN (fun f => maxN (nestS 4) f.body) p
def formP (p : List FnD) : Bool := decide (1 ≤ p.length ∧ p.length ≤ 4) && p.all fnB
def progB (p : List FnD) : Bool := formP p && decide (cntP p ≤ 40)

end Go.Proofs.YtccdmgncjlpebaaDoor

/-
  Statements (plain): how many they are, how deep they are nested, and what the laws about them say.
-/
namespace Go.Proofs.YtccdmgncjlpebaaDoor
open Go.RowKit
set_option linter.unusedVariables false

theorem stmtB_parts {d : Nat} {s : StmtD} (h : stmtB (d + 1) s = true) : ownS s = true ∧ (∀ k ∈ s.body, stmtB d k = true) ∧ (∀ k ∈ s.els, stmtB d k = true) := by
  simp only [stmtB, Bool.and_eq_true, List.all_eq_true] at h
  exact ⟨h.1.1, h.1.2, h.2⟩
theorem maxN_le {α : Type} {f : α → Nat} {n : Nat} : ∀ {xs : List α}, maxN f xs ≤ n ↔ ∀ x ∈ xs, f x ≤ n
  | [] => by simp [maxN]
  | x :: xs => by
    rw [maxN, Nat.max_le, maxN_le]
    simp
theorem nest_le : ∀ (d : Nat) (s : StmtD), nestS d s ≤ d
  | 0, _ => Nat.le_refl _
  | d + 1, s => by
    have e1 : maxN (nestS d) s.body ≤ d := maxN_le.2 fun k _ => nest_le d k
    have e2 : maxN (nestS d) s.els ≤ d := maxN_le.2 fun k _ => nest_le d k
    rw [nestS]; omega
theorem sumN_append {α : Type} {f : α → Nat} : ∀ (xs ys : List α), sumN f (xs ++ ys) = sumN f xs + sumN f ys
  | [], ys => by simp [sumN]
  | x :: xs, ys => by rw [List.cons_append, sumN, sumN, sumN_append xs ys]; omega
theorem maxN_append {α : Type} {f : α → Nat} : ∀ (xs ys : List α), maxN f (xs ++ ys) = max (maxN f xs) (maxN f ys)
  | [], ys => by simp [maxN]
  | x :: xs, ys => by rw [List.cons_append, maxN, maxN, maxN_append xs ys]; omega
theorem sumN_take {α : Type} {f : α → Nat} {xs : List α} {k : Nat} {x : α} (h : xs[k]? = some x) : sumN f (xs.take (k + 1)) = sumN f (xs.take k) + f x := by
  rw [take_succ_of h, sumN_append]; simp [sumN]
theorem maxN_take {α : Type} {f : α → Nat} {xs : List α} {k : Nat} {x : α} (h : xs[k]? = some x) : maxN f (xs.take (k + 1)) = max (maxN f (xs.take k)) (f x) := by
  rw [take_succ_of h, maxN_append]; simp [maxN]
end Go.Proofs.YtccdmgncjlpebaaDoor
