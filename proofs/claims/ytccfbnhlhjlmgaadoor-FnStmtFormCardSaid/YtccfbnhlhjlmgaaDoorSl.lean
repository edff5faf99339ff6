/-
  Statements, functions and programs as data; how they read in memory.
-/
import Derived.Test.YtccfbnhlhjlmgaaDoorGk
import Derived.Test.YtccfbnhlhjlmgaaDoorPe2
import Derived.Test.YtccfbnhlhjlmgaaDoorEs2
import Derived.Test.YtccfbnhlhjlmgaaDoorDr2

namespace Go.Proofs.YtccfbnhlhjlmgaaDoor
open Go.RowKit
set_option linter.unusedVariables false

inductive StmtD where
  | mk (op : Int) (name : ByteArray) (args : List ExprD) (body els : List StmtD)
namespace StmtD
def op : StmtD → Int | .mk o _ _ _ _ => o
def name : StmtD → ByteArray | .mk _ n _ _ _ => n
def args : StmtD → List ExprD | .mk _ _ a _ _ => a
def body : StmtD → List StmtD | .mk _ _ _ b _ => b
def els : StmtD → List StmtD | .mk _ _ _ _ e => e
end StmtD
structure FnD where
  name : ByteArray
  params : List ByteArray
  body : List StmtD

/-- A text in a cell. -/
def strP : InRel ByteArray := fun _ _ c x => c = [.string x] ∧ x.size ≤ maxLen
theorem strP_stays : Stays 1 strP := ⟨fun _ h => h, fun _ _ h => h, fun h => by rw [h.1]; rfl⟩
/-- An expression, at most so deep, whose names are not too long. -/
def exprK (d : Nat) : InRel ExprD := fun S w c x => ExprP d S w c x ∧ anyE longP d x = false
theorem exprK_stays (d : Nat) : Stays 4 (exprK d) := ⟨fun hS h => ⟨exprP_mono hS h.1, h.2⟩, fun ht hS h => ⟨exprP_turned ht hS h.1, h.2⟩, fun h => exprP_len h.1⟩
theorem exprK_le {d d' : Nat} (hd : d ≤ d') {S : Nat → Prop} {w : World} {c : List Value} {x : ExprD} (h : exprK d S w c x) : exprK d' S w c x := ⟨exprP_le hd h.1, by rw [anyE_deep h.1 hd]; exact h.2⟩
/-- A statement, at most so deep. -/
def StmtP : Nat → InRel StmtD
  | 0 => fun _ _ _ _ => False
  | d + 1 => fun S w c x => ∃ aa ac ba bc ea ec, c = [.int .i64 x.op, .string x.name, .slice aa x.args.length ac, .slice ba x.body.length bc, .slice ea x.els.length ec] ∧
      (x.name.size ≤ maxLen ∧ -9223372036854775808 ≤ x.op ∧ x.op ≤ 9223372036854775807 ∧ x.args.length ≤ 100 ∧ x.body.length ≤ 100 ∧ x.els.length ≤ 100) ∧
      ListK 4 (exprK 12) S w aa x.args ∧ ListK 5 (StmtP d) S w ba x.body ∧ ListK 5 (StmtP d) S w ea x.els
theorem stmtP_len : ∀ {d : Nat} {S : Nat → Prop} {w : World} {c : List Value} {x : StmtD}, StmtP d S w c x → c.length = 5
  | 0, _, _, _, _, h => h.elim
  | d + 1, _, _, _, _, ⟨_, _, _, _, _, _, rfl, _⟩ => rfl
theorem stmtP_stays : ∀ d, Stays 5 (StmtP d)
  | 0 => ⟨fun _ h => h.elim, fun _ _ h => h.elim, fun h => h.elim⟩
  | d + 1 => ⟨fun hS ⟨aa, ac, ba, bc, ea, ec, h1, h2, h3, h4, h5⟩ => ⟨aa, ac, ba, bc, ea, ec, h1, h2, h3.mono (exprK_stays 12) hS, h4.mono (stmtP_stays d) hS, h5.mono (stmtP_stays d) hS⟩,
      fun ht hS ⟨aa, ac, ba, bc, ea, ec, h1, h2, h3, h4, h5⟩ => ⟨aa, ac, ba, bc, ea, ec, h1, h2, h3.turned (exprK_stays 12) ht hS, h4.turned (stmtP_stays d) ht hS, h5.turned (stmtP_stays d) ht hS⟩,
      stmtP_len⟩
theorem ListK.rel {α : Type} {s : Nat} {R R' : InRel α} {S : Nat → Prop} {w : World} {a : Option Addr} {xs : List α} (h : ListK s R S w a xs) (hR : ∀ c x, x ∈ xs → R S w c x → R' S w c x) : ListK s R' S w a xs := ⟨sliceRd_mono' h.rd hR, h.blk⟩
theorem stmtP_more : ∀ {d : Nat} {S : Nat → Prop} {w : World} {c : List Value} {x : StmtD}, StmtP d S w c x → StmtP (d + 1) S w c x
  | 0, _, _, _, _, h => h.elim
  | d + 1, S, w, c, x, ⟨aa, ac, ba, bc, ea, ec, h1, h2, h3, h4, h5⟩ => ⟨aa, ac, ba, bc, ea, ec, h1, h2, h3, h4.rel (fun _ _ _ h => stmtP_more h), h5.rel (fun _ _ _ h => stmtP_more h)⟩
theorem stmtP_le {d d' : Nat} (hd : d ≤ d') {S : Nat → Prop} {w : World} {c : List Value} {x : StmtD} (h : StmtP d S w c x) : StmtP d' S w c x := by
  induction d' with
  | zero => obtain rfl : d = 0 := by omega
            exact h
  | succ n ih =>
    by_cases he : d = n + 1
    · subst he; exact h
    · exact stmtP_more (ih (by omega))
/-- A function. -/
def FnP (d : Nat) : InRel FnD := fun S w c x => ∃ pa pc ba bc, c = [.string x.name, .slice pa x.params.length pc, .slice ba x.body.length bc] ∧ (x.name.size ≤ maxLen ∧ x.params.length ≤ 100 ∧ x.body.length ≤ 100) ∧
      ListK 1 strP S w pa x.params ∧ ListK 5 (StmtP d) S w ba x.body
theorem fnP_stays (d : Nat) : Stays 3 (FnP d) :=
  ⟨fun hS ⟨pa, pc, ba, bc, h1, h2, h3, h4⟩ => ⟨pa, pc, ba, bc, h1, h2, h3.mono strP_stays hS, h4.mono (stmtP_stays d) hS⟩,
   fun ht hS ⟨pa, pc, ba, bc, h1, h2, h3, h4⟩ => ⟨pa, pc, ba, bc, h1, h2, h3.turned strP_stays ht hS, h4.turned (stmtP_stays d) ht hS⟩,
   fun ⟨_, _, _, _, h1, _⟩ => by rw [h1]; rfl⟩
theorem fnP_le {d d' : Nat} (hd : d ≤ d') {S : Nat → Prop} {w : World} {c : List Value} {x : FnD} (h : FnP d S w c x) : FnP d' S w c x := by
  obtain ⟨pa, pc, ba, bc, h1, h2, h3, h4⟩ := h
  exact ⟨pa, pc, ba, bc, h1, h2, h3, h4.rel (fun _ _ _ h => stmtP_le hd h)⟩

/-! ### what is valid -/
def validE (x : ExprD) : Bool := (sizeD nameD 6 x).isSome
def headS (op : Int) (name : ByteArray) (na nb ne : Nat) : Bool :=
  inE 1 op 8 && (na == (if op = 4 then 2 else 1)) && (if op = 1 ∨ op = 2 then nameD name else name.toList.isEmpty) && (op == 5 || ne == 0) && (op == 5 || op == 6 || nb == 0)
def ownS (s : StmtD) : Bool := headS s.op s.name s.args.length s.body.length s.els.length && s.args.all validE && (!(s.op == 8) || (s.args.getD 0 default).op == 13)
def stmtB : Nat → StmtD → Bool
  | 0, _ => false
  | d + 1, s => ownS s && s.body.all (stmtB d) && s.els.all (stmtB d)
def fnB (f : FnD) : Bool := nameD f.name && decide (f.params.length ≤ 3) && f.params.all nameD && f.body.all (stmtB 4)
def sumN {α : Type} (f : α → Nat) : List α → Nat
  | [] => 0
  | x :: xs => f x + sumN f xs
def maxN {α : Type} (f : α → Nat) : List α → Nat
  | [] => 0
  | x :: xs => max (f x) (maxN f xs)
/-- How many statements there are in one, it with them. -/
def cntS : Nat → StmtD → Nat
  | 0, _ => 0
  | d + 1, s => 1 + sumN (cntS d) s.body + sumN (cntS d) s.els
/-- How deep they are nested. -/
def nestS : Nat → StmtD → Nat
  | 0, _ => 0
  | d + 1, s => 1 + max (maxN (nestS d) s.body) (maxN (nestS d) s.els)
def cntP (p : List FnD) : Nat := sumN (fun f => sumN (cntS 4) f.body) p
def nestP (p : List FnD) : Nat := maxN (fun f => maxN (nestS 4) f.body) p
def formP (p : List FnD) : Bool := decide (1 ≤ p.length ∧ p.length ≤ 4) && p.all fnB
def progB (p : List FnD) : Bool := formP p && decide (cntP p ≤ 40)

end Go.Proofs.YtccfbnhlhjlmgaaDoor

/-
  Statements (plain): how many they are, how deep they are nested, and what the laws about them say.
-/
namespace Go.Proofs.YtccfbnhlhjlmgaaDoor
open Go.RowKit
set_option linter.unusedVariables false

theorem stmtB_parts {d : Nat} {s : StmtD} (h : stmtB (d + 1) s = true) : ownS s = true ∧ (∀ k ∈ s.body, stmtB d k = true) ∧ (∀ k ∈ s.els, stmtB d k = true) := by
  simp only [stmtB, Bool.and_eq_true, List.all_eq_true] at h
  exact ⟨h.1.1, h.1.2, h.2⟩
theorem stmtB_of {d : Nat} {s : StmtD} (h1 : ownS s = true) (h2 : ∀ k ∈ s.body, stmtB d k = true) (h3 : ∀ k ∈ s.els, stmtB d k = true) : stmtB (d + 1) s = true := by
  simp only [stmtB, Bool.and_eq_true, List.all_eq_true]
  exact ⟨⟨h1, h2⟩, h3⟩
theorem stmtB_more : ∀ {d : Nat} {s : StmtD}, stmtB d s = true → stmtB (d + 1) s = true
  | 0, _, h => by simp [stmtB] at h
  | d + 1, s, h => by
    obtain ⟨h1, h2, h3⟩ := stmtB_parts h
    exact stmtB_of h1 (fun k hk => stmtB_more (h2 k hk)) (fun k hk => stmtB_more (h3 k hk))
theorem maxN_le {α : Type} {f : α → Nat} {n : Nat} : ∀ {xs : List α}, maxN f xs ≤ n ↔ ∀ x ∈ xs, f x ≤ n
  | [] => by simp [maxN]
  | x :: xs => by
    rw [maxN, Nat.max_le, maxN_le]
    simp
theorem nest_fits : ∀ {d : Nat} {s : StmtD}, stmtB (d + 1) s = true → (stmtB d s = true ↔ nestS (d + 1) s ≤ d)
  | 0, s, _ => by simp [stmtB, nestS]
  | d + 1, s, h => by
    obtain ⟨h1, h2, h3⟩ := stmtB_parts h
    constructor
    · intro hs
      obtain ⟨_, k2, k3⟩ := stmtB_parts hs
      have e1 : maxN (nestS (d + 1)) s.body ≤ d := maxN_le.2 fun k hk => (nest_fits (h2 k hk)).1 (k2 k hk)
      have e2 : maxN (nestS (d + 1)) s.els ≤ d := maxN_le.2 fun k hk => (nest_fits (h3 k hk)).1 (k3 k hk)
      rw [nestS]
      omega
    · intro hn
      rw [nestS] at hn
      have e1 : maxN (nestS (d + 1)) s.body ≤ d := by omega
      have e2 : maxN (nestS (d + 1)) s.els ≤ d := by omega
      exact stmtB_of h1 (fun k hk => (nest_fits (h2 k hk)).2 (maxN_le.1 e1 k hk)) (fun k hk => (nest_fits (h3 k hk)).2 (maxN_le.1 e2 k hk))
theorem nest_le : ∀ (d : Nat) (s : StmtD), nestS d s ≤ d
  | 0, _ => Nat.le_refl _
  | d + 1, s => by
    have e1 : maxN (nestS d) s.body ≤ d := maxN_le.2 fun k _ => nest_le d k
    have e2 : maxN (nestS d) s.els ≤ d := maxN_le.2 fun k _ => nest_le d k
    rw [nestS]; omega
theorem sumN_append {α : Type} {f : α → Nat} : ∀ (xs ys : List α), sumN f (xs ++ ys) = sumN f xs + sumN f ys
  | [], ys => by simp [sumN]
  | x :: xs, ys => by rw [List.cons_append, sumN, sumN, sumN_append xs ys]; omega
theorem maxN_append {α : Type} {f : α → Nat} : ∀ (xs ys : List α), maxN f (xs ++ ys) = max (maxN f xs) (maxN f ys)
  | [], ys => by simp [maxN]
  | x :: xs, ys => by rw [List.cons_append, maxN, maxN, maxN_append xs ys]; omega
theorem sumN_mem {α : Type} {f : α → Nat} : ∀ {xs : List α} {x : α}, x ∈ xs → f x ≤ sumN f xs
  | y :: ys, x, h => by
    rw [sumN]
    rcases List.mem_cons.1 h with rfl | h
    · omega
    · have := sumN_mem (f := f) h; omega
theorem sumN_take {α : Type} {f : α → Nat} {xs : List α} {k : Nat} {x : α} (h : xs[k]? = some x) : sumN f (xs.take (k + 1)) = sumN f (xs.take k) + f x := by
  rw [take_succ_of h, sumN_append]; simp [sumN]
theorem maxN_take {α : Type} {f : α → Nat} {xs : List α} {k : Nat} {x : α} (h : xs[k]? = some x) : maxN f (xs.take (k + 1)) = max (maxN f (xs.take k)) (f x) := by
  rw [take_succ_of h, maxN_append]; simp [maxN]
/-- The program of one function of a valid one is valid. -/
theorem progB_one {p : List FnD} (h : progB p = true) {f : FnD} (hf : f ∈ p) : progB [f] = true ∧ cntP [f] = sumN (cntS 4) f.body ∧ nestP [f] = maxN (nestS 4) f.body := by
  simp only [progB, formP, Bool.and_eq_true, decide_eq_true_eq, List.all_eq_true] at h
  have h1 : cntP [f] = sumN (cntS 4) f.body := by simp [cntP, sumN]
  have h2 : sumN (cntS 4) f.body ≤ cntP p := sumN_mem (f := fun f => sumN (cntS 4) f.body) hf
  refine ⟨?_, h1, by simp [nestP, maxN]⟩
  simp only [progB, formP, Bool.and_eq_true, decide_eq_true_eq, List.all_eq_true]
  refine ⟨⟨by simp, fun g hg => ?_⟩, by omega⟩
  simp at hg
  subst hg
  exact h.1.2 _ hf
theorem progB_small {p : List FnD} (h : progB p = true) : cntP p ≤ 40 ∧ nestP p ≤ 4 ∧ (cntP p = 0 ↔ nestP p = 0) ∧ 1 ≤ p.length ∧ p.length ≤ 4 := by
  simp only [progB, formP, Bool.and_eq_true, decide_eq_true_eq, List.all_eq_true] at h
  have hz : ∀ xs : List StmtD, sumN (cntS 4) xs = 0 ↔ maxN (nestS 4) xs = 0 := by
    intro xs
    cases xs with
    | nil => simp [sumN, maxN]
    | cons x xs =>
      rw [sumN, maxN]
      have h1 : 1 ≤ cntS 4 x := by rw [cntS]; omega
      have h2 : 1 ≤ nestS 4 x := by rw [nestS]; omega
      omega
  refine ⟨h.2, maxN_le.2 fun f _ => maxN_le.2 fun s _ => nest_le 4 s, ?_, h.1.1.1, h.1.1.2⟩
  have : ∀ q : List FnD, cntP q = 0 ↔ nestP q = 0 := by
    intro q
    induction q with
    | nil => simp [cntP, nestP, sumN, maxN]
    | cons f q ih =>
      have := hz f.body
      simp only [cntP, nestP, sumN, maxN] at ih this ⊢
      omega
  exact this p
/-- What becomes of the validity of statements in a loop. -/
def loopOf (s : StmtD) : StmtD := .mk 6 ⟨#[]⟩ [.mk 1 0 ⟨#[]⟩ []] [s] []
theorem loop_own (s : StmtD) : ownS (loopOf s) = true := by
  have h : sizeD nameD 6 (.mk 1 0 ⟨#[]⟩ []) = some (1, 1) := by
    have := numE_size (v := 0) (by decide) 5
    exact this
  simp [loopOf, ownS, StmtD.op, StmtD.name, StmtD.args, StmtD.body, StmtD.els, headS, validE, h, inE]
theorem loop_valid (s : StmtD) : stmtB 4 (loopOf s) = stmtB 3 s := by
  have h := loop_own s
  show (ownS (loopOf s) && (loopOf s).body.all (stmtB 3) && (loopOf s).els.all (stmtB 3)) = _
  rw [h]
  simp [loopOf, StmtD.body, StmtD.els]
theorem form_law {s : StmtD} (h : stmtB 4 s = true) : stmtB 4 (loopOf s) = decide (nestS 4 s < 4) := by
  rw [loop_valid]
  have : stmtB 3 s = true ↔ nestS 4 s ≤ 3 := nest_fits (d := 3) h
  cases hb : stmtB 3 s with
  | true => rw [hb] at this; symm; rw [decide_eq_true_eq]; have := this.1 rfl; omega
  | false =>
    symm; rw [decide_eq_false_iff_not]
    intro hn
    have := this.2 (by omega)
    rw [hb] at this; cases this
theorem form_none {s : StmtD} (h : stmtB 4 s = false) : stmtB 4 (loopOf s) = false := by
  rw [loop_valid]
  cases hb : stmtB 3 s with
  | false => rfl
  | true => rw [stmtB_more hb] at h; cases h
theorem form_bare (s : StmtD) : stmtB 4 (.mk s.op s.name [] s.body s.els) = false := by
  have : ownS (.mk s.op s.name [] s.body s.els) = false := by
    by_cases h : s.op = 4 <;> simp [ownS, StmtD.op, StmtD.name, StmtD.args, StmtD.body, StmtD.els, headS] <;> simp [StmtD.op] at h <;> simp [h]
  rw [stmtB, this]; rfl

end Go.Proofs.YtccfbnhlhjlmgaaDoor
