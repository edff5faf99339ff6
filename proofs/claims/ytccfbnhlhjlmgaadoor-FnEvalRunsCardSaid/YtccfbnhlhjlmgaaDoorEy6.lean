
/-
  Expressions with names: what they evaluate to; where a name's value lies.
-/
import Derived.Test.YtccfbnhlhjlmgaaDoorEx6
import Derived.Test.YtccfbnhlhjlmgaaDoorEy4
import Derived.Test.YtccfbnhlhjlmgaaDoorEy5
namespace Go.Proofs.YtccfbnhlhjlmgaaDoor
open Go.RowKit

/-- The value of an expression; none: something is divided by 0. -/
def evalV (G : ByteArray → Option Int) : Nat → ExprD → Option Int
  | 0, _ => none
  | d + 1, e =>
    if e.op = 1 then some e.n
    else if e.op = 2 then some ((G e.name).getD 0)
    else if e.op = 10 then (evalV G d (e.kids.getD 0 default)).bind (fun a => if a = 0 then some 0 else (evalV G d (e.kids.getD 1 default)).bind (fun b => some (truthI (!(b == 0)))))
    else (evalV G d (e.kids.getD 0 default)).bind (fun a => (if 1 < e.kids.length then evalV G d (e.kids.getD 1 default) else some 0).bind (fun b => arithD e.op a b))
theorem any_partsE {p : ExprD → Bool} {d : Nat} {x : ExprD} (h : anyE p (d + 1) x = false) : p x = false ∧ ∀ k ∈ x.kids, anyE p d k = false := by
  rw [anyE, Bool.or_eq_false_iff] at h
  exact ⟨h.1, fun k hk => by simpa using List.any_eq_false.1 h.2 k hk⟩
/-- What a part may be, where no cell and no call is asked for. -/
theorem head_casesV {op n : Int} {name : ByteArray} {ks : List ExprD} {ns : List ByteArray} (h : headB nameD op n name ks.length = true) (hb : badP ns (.mk op n name ks) = false) :
    (op = 1 ∧ 0 ≤ n ∧ n ≤ 255) ∨ (op = 2 ∧ hasE ns name = true) ∨ ((op ≠ 1 ∧ op ≠ 2 ∧ op ≠ 13 ∧ op ≠ 12) ∧ op ≠ 10 ∧ 0 < lvl op ∧ ks.length = 2) ∨ (op = 10 ∧ ks.length = 2) ∨ (op = 11 ∧ ks.length = 1) := by
  have hb : ((op == 12) || ((op == 13) || ((op == 2) && !hasE ns name))) = false := hb
  rw [Bool.or_eq_false_iff, Bool.or_eq_false_iff] at hb
  obtain ⟨n12, n13, n2⟩ := hb
  have n12 : op ≠ 12 := by simpa using n12
  have n13 : op ≠ 13 := by simpa using n13
  by_cases h2 : op = 2
  · subst h2
    exact .inr (.inl ⟨rfl, by simpa using n2⟩)
  unfold headB at h
  split at h
  · rename_i h1
    simp only [Bool.and_eq_true, inE, decide_eq_true_eq] at h
    exact .inl ⟨h1, h.1.1, h.1.2⟩
  · rename_i h1
    try rw [if_neg h2, if_neg n13] at h
    split at h
    · rename_i hl
      simp only [Bool.and_eq_true, beq_iff_eq] at h
      by_cases h10 : op = 10
      · exact .inr (.inr (.inr (.inl ⟨h10, h.2.2⟩)))
      · exact .inr (.inr (.inl ⟨⟨h1, h2, n13, n12⟩, h10, hl, h.2.2⟩))
    · split at h
      · rename_i h11
        simp only [Bool.and_eq_true, beq_iff_eq] at h
        exact .inr (.inr (.inr (.inr ⟨by omega, h.2.2⟩)))
      · cases h
theorem evalV_range {ns : List ByteArray} {G : ByteArray → Option Int} (hG : ∀ s v, G s = some v → 0 ≤ v ∧ v ≤ 255) : ∀ (d m : Nat) (x : ExprD) (v : Int), sizeD nameD m x ≠ none → anyE (badP ns) d x = false → evalV G d x = some v → 0 ≤ v ∧ v ≤ 255
  | 0, _, _, _, _, _, h => by cases h
  | d + 1, m, x, v, hs, hN, h => by
    obtain ⟨m', rfl, hh, hk⟩ := size_parts hs
    obtain ⟨hn, hnk⟩ := any_partsE hN
    rw [evalV] at h
    rcases head_casesV hh (show badP ns (.mk x.op x.n x.name x.kids) = false from hn) with ⟨h1, h2, h3⟩ | ⟨h1, h2⟩ | ⟨⟨h1, hn2, -, -⟩, h10, hl, h2⟩ | ⟨h1, h2⟩ | ⟨h1, h2⟩
    · rw [if_pos h1] at h
      cases h
      exact ⟨h2, h3⟩
    · rw [if_neg (by omega), if_pos h1] at h
      cases h
      cases hg : G x.name with
      | none => exact ⟨by simp, by simp⟩
      | some u => exact hG _ _ hg
    · rw [if_neg h1, if_neg hn2, if_neg h10] at h
      obtain ⟨-, m0⟩ := kid_get (ks := x.kids) (i := 0) (by omega)
      obtain ⟨-, m1⟩ := kid_get (ks := x.kids) (i := 1) (by omega)
      obtain ⟨a, hea, h⟩ := Option.bind_eq_some_iff.1 h
      rw [if_pos (by omega)] at h
      obtain ⟨b, heb, h⟩ := Option.bind_eq_some_iff.1 h
      exact arithD_range (evalV_range hG d m' _ a (hk _ m0) (hnk _ m0) hea) (evalV_range hG d m' _ b (hk _ m1) (hnk _ m1) heb) h
    · rw [if_neg (by omega), if_neg (by omega), if_pos h1] at h
      obtain ⟨a, hea, h⟩ := Option.bind_eq_some_iff.1 h
      split at h
      · cases h; omega
      · obtain ⟨b, heb, h⟩ := Option.bind_eq_some_iff.1 h
        cases h
        exact truthI_range _
    · rw [if_neg (by omega), if_neg (by omega), if_neg (by omega)] at h
      obtain ⟨-, m0⟩ := kid_get (ks := x.kids) (i := 0) (by omega)
      obtain ⟨a, hea, h⟩ := Option.bind_eq_some_iff.1 h
      rw [if_neg (by omega)] at h
      obtain ⟨b, heb, h⟩ := Option.bind_eq_some_iff.1 h
      cases heb
      exact arithD_range (evalV_range hG d m' _ a (hk _ m0) (hnk _ m0) hea) (by omega) h

/-- The values of the names, as eval finds them. -/
structure EnvAt (w : World) (ve M n : Nat) (G : ByteArray → Option Int) : Prop where
  c0 : w.cell? ⟨ve, 0, none⟩ = some (.map (some M))
  c1 : w.cell? ⟨ve, 1, none⟩ = some (.pointer none)
  vars : VarsAt w M n G
theorem EnvAt.later {w w' : World} {ve M n : Nat} {G : ByteArray → Option Int} (h : EnvAt w ve M n G) (hb : Below w.heap.size w w') : EnvAt w' ve M n G := ⟨cell_later hb h.c0, cell_later hb h.c1, h.vars.later hb⟩
theorem where_any (ve : Nat) (s : ByteArray) (w : World) (h1 : w.cell? ⟨ve, 1, none⟩ = some (.pointer none)) :
    Calls Tryd.prog 113 #[.pointer (some ⟨ve, 0, none⟩), .string s] w fun e w' => e = .returned (.pointer (some ⟨ve, 0, none⟩)) ∧ w' = w := by
  go_enter Tryd.func113, Tryd.ntmps113
  go_wp2_with fail
  refine wp_loop_rounds 1 ?_
  rw [rounds_succ]
  go_wp2
  go_ret
  exact ⟨rfl, rfl⟩
/-- A name that is one of a list is no longer than these. -/
theorem has_size {ns : List ByteArray} {s : ByteArray} (hsz : ∀ t ∈ ns, t.size ≤ maxLen) (h : hasE ns s = true) : s.size ≤ maxLen := by
  obtain ⟨t, ht, he⟩ := List.any_eq_true.1 h
  have e : s.toList = t.toList := by simpa using he
  have h2 : s.size = t.size := by
    have h3 := congrArg List.length e
    rw [ByteArray.toList_eq, ByteArray.toList_eq] at h3
    simpa using h3
  rw [h2]; exact hsz t ht

end Go.Proofs.YtccfbnhlhjlmgaaDoor
