
/-
  Small facts about memory that name no type of the program: what it means that a slice value reads as a list, and how that carries over to a later world.
-/
import Derived.Test.YtonlidgmfmgcmaaGreatRows
import Derived.WalkKit
import Derived.WalkSpells
import Derived.WalkLawsBesides
import Derived.Lib.Hide
import Derived.Deep.QuietTactic
import Derived.BigQuiet

namespace Go.Proofs.YtonlidgmfmgcmaaGreat
open Go.RowKit

/-- The values that a slice leads to, cell by cell. -/
def RowAt (w : World) (a : Option Addr) (vs : List Value) : Prop :=
  vs = [] ∨ ∃ b off, a = some ⟨b, off, none⟩ ∧ ∀ i v, vs[i]? = some v → w.cell? ⟨b, off + i, none⟩ = some v

/-- A slice value's elements read as a list of ints. -/
structure IntsRd (w : World) (a : Option Addr) (len : Nat) (xs : List Int) : Prop where
  length : xs.length = len
  row : RowAt w a (xs.map (Value.int .i64))

/-- The same, and the slice can be cut. -/
structure IntsAt (w : World) (a : Option Addr) (len cap : Nat) (xs : List Int) : Prop extends IntsRd w a len xs where
  le : len ≤ cap
  max : cap ≤ maxLen
  addr : (a = none ∧ cap = 0) ∨ ∃ b off, a = some ⟨b, off, none⟩

theorem RowAt.later {w w' : World} {a : Option Addr} {vs : List Value} (h : RowAt w a vs) (hb : Below w.heap.size w w') : RowAt w' a vs := by
  rcases h with h | ⟨b, off, rfl, h⟩
  · exact .inl h
  · exact .inr ⟨b, off, rfl, fun i v hv => cell_later hb (h i v hv)⟩

theorem RowAt.drew {w : World} {a : Option Addr} {vs : List Value} (h : RowAt w a vs) : RowAt w.drew a vs := h

theorem IntsRd.later {w w' : World} {a : Option Addr} {len : Nat} {xs : List Int} (h : IntsRd w a len xs) (hb : Below w.heap.size w w') : IntsRd w' a len xs :=
  ⟨h.length, h.row.later hb⟩
theorem IntsAt.later {w w' : World} {a : Option Addr} {len cap : Nat} {xs : List Int} (h : IntsAt w a len cap xs) (hb : Below w.heap.size w w') : IntsAt w' a len cap xs :=
  ⟨⟨h.length, h.row.later hb⟩, h.le, h.max, h.addr⟩

/-- The place of an element that is there. -/
theorem IntsRd.place {w : World} {a : Option Addr} {len : Nat} {xs : List Int} (h : IntsRd w a len xs) {i : Nat} (hi : i < len) :
    ∃ b off x, a = some ⟨b, off, none⟩ ∧ xs[i]? = some x ∧ w.cell? ⟨b, off + i, none⟩ = some (.int .i64 x) := by
  have hl := h.length
  rcases h.row with h0 | ⟨b, off, rfl, hc⟩
  · have : xs = [] := by simpa using h0
    subst this; simp at hl; omega
  · have hx : xs[i]? = some (xs[i]'(by omega)) := List.getElem?_eq_getElem _
    exact ⟨b, off, _, rfl, hx, hc i _ (by rw [List.getElem?_map, hx]; rfl)⟩

theorem IntsRd.cell {w : World} {b off len : Nat} {xs : List Int} (h : IntsRd w (some ⟨b, off, none⟩) len xs) {i : Nat} {x : Int} (hx : xs[i]? = some x) :
    w.cell? ⟨b, off + i, none⟩ = some (.int .i64 x) := by
  rcases h.row with h0 | ⟨b', off', hab, hc⟩
  · have : xs = [] := by simpa using h0
    subst this; simp at hx
  · simp only [Option.some.injEq, Addr.mk.injEq] at hab
    obtain ⟨rfl, rfl, _⟩ := hab
    exact hc i _ (by rw [List.getElem?_map, hx]; rfl)

theorem ownsRow_below {w w' : World} {base : Nat} {e : TypeId} {size : Nat} {v : Value} {n : Nat} {xs : List Value} (h : w.ownsRow base e size v n xs) (hb : Below w.heap.size w w') :
    w'.ownsRow base e size v n xs := by
  refine ⟨h.1, ?_⟩
  rcases h.2 with hn | ⟨g, cap, cur, rfl, hbg, hgg, rest⟩
  · exact .inl hn
  · exact .inr ⟨g, cap, cur, rfl, hbg, by rw [hb.block g (Array.getElem?_eq_some_iff.1 hgg).1]; exact hgg, rest⟩

theorem rowAt_of_own {w : World} {base : Nat} {e : TypeId} {a : Option Addr} {n cap m : Nat} {xs : List Value} {size : Nat} (h : w.ownsRow base e size (.slice a n cap) m xs) : RowAt w a xs := by
  rcases h.2 with ⟨hv, rfl⟩ | ⟨g, cap', cur, hv, _, hgg, _, _, _, htake⟩
  · have := h.1; simp at this; exact .inl this
  · simp only [Value.slice.injEq] at hv
    obtain ⟨rfl, rfl, rfl⟩ := hv
    refine .inr ⟨g, 0, rfl, fun i v hv => ?_⟩
    rw [cell_of_row w g (0 + i) cur e (0, 0) hgg]
    rw [← htake, List.getElem?_take] at hv
    split at hv
    · simpa using hv
    · cases hv

theorem own_cap {w : World} {base : Nat} {e : TypeId} {a : Option Addr} {n cap : Nat} {xs : List Value} {size : Nat} (h : w.ownsRow base e size (.slice a n cap) n xs) : n ≤ cap ∧ cap ≤ maxLen := by
  rcases h.2 with ⟨hv, rfl⟩ | ⟨g, cap', cur, hv, _, hgg, h1, h2, _, htake⟩
  · simp only [Value.slice.injEq] at hv
    obtain ⟨_, _, rfl⟩ := hv; exact ⟨Nat.le_refl _, by unfold maxLen; omega⟩
  · simp only [Value.slice.injEq] at hv
    obtain ⟨_, _, rfl⟩ := hv
    exact ⟨h1, h2⟩

theorem own_nil {w : World} {base : Nat} {e : TypeId} {n cap m : Nat} {xs : List Value} {size : Nat} (h : w.ownsRow base e size (.slice none n cap) m xs) : cap = 0 := by
  rcases h.2 with ⟨hv, rfl⟩ | ⟨g, cap', cur, hv, _⟩
  · simp only [Value.slice.injEq] at hv
    exact hv.2.2
  · simp at hv

theorem own_addr {w : World} {base : Nat} {e : TypeId} {a : Option Addr} {n cap m : Nat} {xs : List Value} {size : Nat} (h : w.ownsRow base e size (.slice a n cap) m xs) :
    (a = none ∧ cap = 0) ∨ ∃ b off, a = some ⟨b, off, none⟩ := by
  rcases h.2 with ⟨hv, rfl⟩ | ⟨g, cap', cur, hv, _⟩
  · simp only [Value.slice.injEq] at hv
    exact .inl ⟨hv.1, hv.2.2⟩
  · simp only [Value.slice.injEq] at hv
    exact .inr ⟨g, 0, hv.1⟩

/-- The same row, cut at its front. -/
theorem RowAt.sub {w : World} {a : Option Addr} {vs : List Value} (h : RowAt w a vs) (l cap s : Nat) (hc : vs.length ≤ cap * s) {ao : Option Addr} (hao : ao = if cap = l then a else a.map (·.add (l * s))) :
    RowAt w ao (vs.drop (l * s)) := by
  subst hao
  rcases h with rfl | ⟨b, off, rfl, h⟩
  · exact .inl (by simp)
  · by_cases hcl : cap = l
    · subst hcl
      exact .inl (List.drop_eq_nil_of_le hc)
    · refine .inr ⟨b, off + l * s, ?_, fun i v hv => ?_⟩
      · rw [if_neg hcl]
        simp only [Option.map_some, Option.some.injEq]
        unfold Addr.add
        split
        · simp_all
        · rfl
      · rw [List.getElem?_drop] at hv
        rw [Nat.add_assoc]
        exact h _ v hv

/-- The same for one-cell elements, in the walk's spelling. -/
theorem RowAt.cut {w : World} {b off : Nat} {vs : List Value} (h : RowAt w (some ⟨b, off, none⟩) vs) (l cap : Nat) (hc : vs.length ≤ cap) :
    RowAt w (if cap = l then some ⟨b, off, none⟩ else some ⟨b, off + l, none⟩) (vs.drop l) := by
  have := h.sub l cap 1 (by omega) (ao := if cap = l then some ⟨b, off, none⟩ else some ⟨b, off + l, none⟩) (by
    split
    · rfl
    · simp only [Option.map_some, Option.some.injEq, Nat.mul_one]
      unfold Addr.add
      split
      · simp_all
      · rfl)
  simpa using this

theorem RowAt.pre {w : World} {a : Option Addr} {vs : List Value} (h : RowAt w a vs) (n : Nat) : RowAt w a (vs.take n) := by
  rcases h with rfl | ⟨b, off, rfl, h⟩
  · exact .inl (by simp)
  · refine .inr ⟨b, off, rfl, fun i v hv => h i v ?_⟩
    rw [List.getElem?_take] at hv
    split at hv
    · exact hv
    · cases hv

theorem RowAt.cells {w : World} {ad : Addr} {vs : List Value} (h : RowAt w (some ad) vs) : ∀ j u, vs[j]? = some u → w.cell? (ad.add j) = some u := by
  rcases h with rfl | ⟨b, off, hab, h⟩
  · intro j u hu; simp at hu
  · cases hab
    intro j u hu
    have hadd : (⟨b, off, none⟩ : Addr).add j = ⟨b, off + j, none⟩ := by unfold Addr.add; split <;> simp_all
    rw [hadd]
    exact h j u hu

/-- 'x[l:]' of ints, in the walk's spelling. -/
theorem IntsAt.from {w : World} {b off len cap : Nat} {xs : List Int} (h : IntsAt w (some ⟨b, off, none⟩) len cap xs) (l : Nat) :
    RowAt w (if cap = l then some ⟨b, off, none⟩ else some ⟨b, off + l, none⟩) ((xs.drop l).map (Value.int .i64)) := by
  rw [List.map_drop]
  exact h.row.cut l cap (by have := h.length; have := h.le; simp; omega)
/-- 'x[:n]' of ints. -/
theorem IntsRd.pre {w : World} {a : Option Addr} {len : Nat} {xs : List Int} (h : IntsRd w a len xs) (n : Nat) : RowAt w a ((xs.take n).map (Value.int .i64)) := by
  rw [List.map_take]
  exact h.row.pre n
theorem IntsRd.take_length {w : World} {a : Option Addr} {len : Nat} {xs : List Int} (h : IntsRd w a len xs) {n : Nat} (hn : n ≤ len) : (xs.take n).length = n := by
  have := h.length; simp; omega
theorem IntsRd.drop_length {w : World} {a : Option Addr} {len : Nat} {xs : List Int} (h : IntsRd w a len xs) (n : Nat) : (xs.drop n).length = len - n := by
  have := h.length; simp; omega

theorem ret_int {k : IntKind} {a b : Int} (h : a = b) : Ending.returned (.int k a) = .returned (.int k b) := by rw [h]
theorem ret_bool {a b : Bool} (h : a = b) : Ending.returned (.bool a) = .returned (.bool b) := by rw [h]

theorem take_succ_of {α : Type} {xs : List α} {k : Nat} {x : α} (h : xs[k]? = some x) : xs.take (k + 1) = xs.take k ++ [x] := by
  rw [List.take_add_one, h]; rfl

end Go.Proofs.YtonlidgmfmgcmaaGreat

/-
  Slices of elements of several cells (structs): what it means that one reads as a list.
-/
namespace Go.Proofs.YtonlidgmfmgcmaaGreat
open Go.RowKit

theorem flatten_get {α : Type} {s : Nat} : ∀ {cells : List (List α)} {i j : Nat} {c : List α}, (∀ c ∈ cells, c.length = s) → cells[i]? = some c → j < s → cells.flatten[i * s + j]? = c[j]?
  | [], _, _, _, _, h, _ => by simp at h
  | d :: cells, 0, j, c, hl, h, hj => by
    simp at h
    subst h
    have h1 := hl d (by simp)
    rw [List.flatten_cons, Nat.zero_mul, Nat.zero_add, List.getElem?_append_left (by omega)]
  | d :: cells, i + 1, j, c, hl, h, hj => by
    have h1 := hl d (by simp)
    rw [List.flatten_cons, List.getElem?_append_right (by rw [Nat.add_mul]; omega), show (i + 1) * s + j - d.length = i * s + j by rw [Nat.add_mul, h1]; omega]
    exact flatten_get (fun x hx => hl x (by simp [hx])) (by simpa using h) hj

theorem flatten_len {α : Type} {s : Nat} : ∀ {cells : List (List α)}, (∀ c ∈ cells, c.length = s) → cells.flatten.length = cells.length * s
  | [], _ => by simp
  | c :: cells, h => by
    rw [List.flatten_cons, List.length_append, h c (by simp), flatten_len (fun x hx => h x (by simp [hx])), List.length_cons, Nat.add_mul]; omega

/-- A slice of elements of s cells reads as a list, element for element by R. -/
structure SliceRd {α : Type} (s : Nat) (R : World → List Value → α → Prop) (w : World) (a : Option Addr) (len : Nat) (xs : List α) : Prop where
  length : xs.length = len
  row : ∃ cells : List (List Value), RowAt w a cells.flatten ∧ cells.length = len ∧ (∀ c ∈ cells, c.length = s) ∧ ∀ (i : Nat) c x, cells[i]? = some c → xs[i]? = some x → R w c x
/-- What reads so reads so later. -/
def Lasts {α : Type} (R : World → List Value → α → Prop) : Prop := ∀ w w' c x, Below w.heap.size w w' → R w c x → R w' c x
theorem SliceRd.later {α : Type} {s : Nat} {R : World → List Value → α → Prop} (hR : Lasts R) {w w' : World} {a : Option Addr} {len : Nat} {xs : List α} (h : SliceRd s R w a len xs) (hb : Below w.heap.size w w') : SliceRd s R w' a len xs := by
  obtain ⟨hl, cells, h1, h2, h3, h4⟩ := h
  exact ⟨hl, cells, h1.later hb, h2, h3, fun i c x hc hx => hR _ _ _ _ hb (h4 i c x hc hx)⟩
theorem SliceRd.place {α : Type} {s : Nat} {R : World → List Value → α → Prop} {w : World} {a : Option Addr} {len : Nat} {xs : List α} (h : SliceRd s R w a len xs) (hs : 0 < s) {i : Nat} (hi : i < len) :
    ∃ b off cs x, a = some ⟨b, off, none⟩ ∧ xs[i]? = some x ∧ cs.length = s ∧ (∀ j v, cs[j]? = some v → w.cell? ⟨b, off + i * s + j, none⟩ = some v) ∧ R w cs x := by
  obtain ⟨hl, cells, h1, h2, h3, h4⟩ := h
  have hc : cells[i]? = some (cells[i]'(by omega)) := List.getElem?_eq_getElem _
  have hx : xs[i]? = some (xs[i]'(by omega)) := List.getElem?_eq_getElem _
  have hcl := h3 _ (List.getElem_mem (show i < cells.length by omega))
  rcases h1 with h1 | ⟨b, off, rfl, h1⟩
  · exfalso
    have h5 := flatten_get (j := 0) h3 hc hs
    rw [h1, List.getElem?_nil, List.getElem?_eq_getElem (by omega)] at h5
    cases h5
  · refine ⟨b, off, _, _, rfl, hx, hcl, fun j v hv => ?_, h4 i _ _ hc hx⟩
    have hj := (List.getElem?_eq_some_iff.1 hv).1
    rw [Nat.add_assoc]
    exact h1 _ _ (by rw [flatten_get h3 hc (by omega)]; exact hv)

end Go.Proofs.YtonlidgmfmgcmaaGreat

/-
  The size of a list of data, as the laws count it.
-/
namespace Go.Proofs.YtonlidgmfmgcmaaGreat
open Go.RowKit

def sumOf {α : Type} (sz : α → Nat) (xs : List α) : Nat := (xs.map sz).sum
def szS {α : Type} (sz : α → Nat) (xs : List α) : Nat := xs.length + sumOf sz xs
theorem sumOf_snoc {α : Type} (sz : α → Nat) (xs : List α) (x : α) : sumOf sz (xs ++ [x]) = sumOf sz xs + sz x := by simp [sumOf]
theorem sumOf_take {α : Type} (sz : α → Nat) (xs : List α) (k : Nat) : sumOf sz (xs.take k) ≤ sumOf sz xs := by
  have : sumOf sz xs = sumOf sz (xs.take k) + sumOf sz (xs.drop k) := by rw [sumOf, sumOf, sumOf, ← List.sum_append, ← List.map_append, List.take_append_drop]
  omega
theorem sumOf_zero {α : Type} {sz : α → Nat} (h : ∀ x, sz x = 0) : ∀ xs : List α, sumOf sz xs = 0
  | [] => rfl
  | x :: xs => by
    have := sumOf_zero h xs
    simp only [sumOf, List.map_cons, List.sum_cons, h] at this ⊢
    omega
theorem szS_zero {α : Type} {sz : α → Nat} (h : ∀ x, sz x = 0) {xs : List α} : szS sz xs = xs.length := by rw [szS, sumOf_zero h]; omega
theorem sumOf_mem {α : Type} {sz : α → Nat} {x : α} : ∀ {xs : List α}, x ∈ xs → sz x ≤ sumOf sz xs
  | y :: xs, h => by
    rw [sumOf, List.map_cons, List.sum_cons]
    rcases List.mem_cons.1 h with rfl | h
    · omega
    · have := sumOf_mem (sz := sz) h
      rw [sumOf] at this
      omega
theorem szS_mem {α : Type} {sz : α → Nat} {x : α} {xs : List α} (h : x ∈ xs) : sz x ≤ szS sz xs := by
  have := sumOf_mem (sz := sz) h
  unfold szS
  omega
theorem szS_len {α : Type} (sz : α → Nat) (xs : List α) : xs.length ≤ szS sz xs := by unfold szS; omega

/-- The size is within what was left, or the answer is -1. -/
def SizedD (left : Int) (tot : Nat) (e : Ending) : Prop := (left < tot ∧ e = .returned (.int .i64 (-1))) ∨ (tot ≤ left ∧ e = .returned (.int .i64 (left - tot)))

end Go.Proofs.YtonlidgmfmgcmaaGreat

/-
  Worlds that differ in some blocks alone: how what is owned carries over.
-/
namespace Go.Proofs.YtonlidgmfmgcmaaGreat
open Go.RowKit

/-- w' is w but for new blocks and the blocks in S. -/
structure Turned (S : Nat → Prop) (w w' : World) : Prop where
  os : w'.os = w.os
  tape : w'.tape = w.tape
  output : w'.output = w.output
  size : w.heap.size ≤ w'.heap.size
  block : ∀ k, k < w.heap.size → ¬ S k → w'.heap[k]? = w.heap[k]?
theorem Turned.refl (S : Nat → Prop) (w : World) : Turned S w w := ⟨rfl, rfl, rfl, Nat.le_refl _, fun _ _ _ => rfl⟩
theorem Turned.trans {S : Nat → Prop} {a b c : World} (h : Turned S a b) (k : Turned S b c) : Turned S a c :=
  ⟨k.os.trans h.os, k.tape.trans h.tape, k.output.trans h.output, Nat.le_trans h.size k.size, fun i hi hn => (k.block i (Nat.lt_of_lt_of_le hi h.size) hn).trans (h.block i hi hn)⟩
theorem Turned.mono {S T : Nat → Prop} {w w' : World} (h : Turned S w w') (hST : ∀ k, S k → T k) : Turned T w w' :=
  ⟨h.os, h.tape, h.output, h.size, fun k hk hn => h.block k hk (fun hs => hn (hST k hs))⟩
theorem turned_of_grown {w w' : World} {row : Option Nat} (h : w.grownBy w' row) {S : Nat → Prop} (hS : ∀ k, row = some k → S k) : Turned S w w' :=
  ⟨h.os, h.tape, h.output, h.size, fun k hk hn => h.block k hk (fun e => hn (hS k e.symm))⟩
theorem turned_of_below {B : Nat} {w w' : World} (h : Below B w w') {S : Nat → Prop} (hS : ∀ k, B ≤ k → k < w.heap.size → S k) : Turned S w w' :=
  ⟨h.os, h.tape, h.output, h.size, fun k hk hn => h.block k (by
    rcases Nat.lt_or_ge k B with h | h
    · exact h
    · exact absurd (hS k h hk) hn)⟩
theorem Turned.below {S : Nat → Prop} {w w' : World} (h : Turned S w w') {B : Nat} (hB : B ≤ w.heap.size) (hS : ∀ k, S k → B ≤ k) : Below B w w' :=
  ⟨h.os, h.tape, h.output, h.size, fun k hk => h.block k (by omega) (fun hs => by have := hS k hs; omega)⟩
theorem own_turned {S : Nat → Prop} {w w' : World} {base : Nat} {e : TypeId} {size : Nat} {v : Value} {n : Nat} {xs : List Value} (h : w.ownsRow base e size v n xs) (ht : Turned S w w')
    (hS : ∀ k, v.ownBlock = some k → ¬ S k) : w'.ownsRow base e size v n xs := by
  refine ⟨h.1, ?_⟩
  rcases h.2 with hn | ⟨g, cap, cur, rfl, hbg, hgg, rest⟩
  · exact .inl hn
  · exact .inr ⟨g, cap, cur, rfl, hbg, by rw [ht.block g (Array.getElem?_eq_some_iff.1 hgg).1 (hS g rfl)]; exact hgg, rest⟩
theorem own_lower {w : World} {base base' : Nat} {e : TypeId} {size : Nat} {v : Value} {n : Nat} {xs : List Value} (h : w.ownsRow base e size v n xs) (hb : ∀ k, v.ownBlock = some k → base' ≤ k) : w.ownsRow base' e size v n xs := by
  refine ⟨h.1, ?_⟩
  rcases h.2 with hn | ⟨g, cap, cur, rfl, hbg, hgg, rest⟩
  · exact .inl hn
  · exact .inr ⟨g, cap, cur, rfl, hb g rfl, hgg, rest⟩

end Go.Proofs.YtonlidgmfmgcmaaGreat

/-
  Rows of structs that a call has made: each element's memory lies in a range of blocks of its own.
-/
namespace Go.Proofs.YtonlidgmfmgcmaaGreat
open Go.RowKit

/-- R says that cells hold a datum whose memory lies in the blocks from lo to hi. -/
abbrev OwnRel (α : Type) := Nat → Nat → World → List Value → α → Prop
/-- What a relation of memory must keep: it carries over where its blocks are not touched, and to a wider range. -/
structure Keeps {α : Type} (R : OwnRel α) : Prop where
  le : ∀ {lo hi w c x}, R lo hi w c x → lo ≤ hi
  wide : ∀ {lo hi lo' hi' w c x}, R lo hi w c x → lo' ≤ lo → hi ≤ hi' → R lo' hi' w c x
  turned : ∀ {lo hi w w' c x} {S : Nat → Prop}, R lo hi w c x → Turned S w w' → (∀ k, lo ≤ k → k < hi → ¬ S k) → R lo hi w' c x
theorem Keeps.below {α : Type} {R : OwnRel α} (hR : Keeps R) {lo hi : Nat} {w w' : World} {c : List Value} {x : α} (h : R lo hi w c x) (hb : Below w.heap.size w w') : R lo hi w' c x :=
  hR.turned (S := fun k => w.heap.size ≤ k ∧ hi ≤ k) h ⟨hb.os, hb.tape, hb.output, hb.size, fun k hk _ => hb.block k hk⟩ (fun k _ hk hs => by omega)

/-- A slice of ints that a call has made. -/
def IntsOwn (e : TypeId) (lo hi : Nat) (w : World) (a : Option Addr) (len cap : Nat) (xs : List Int) : Prop :=
  lo ≤ hi ∧ w.ownsRow lo e 1 (.slice a len cap) len (xs.map (Value.int .i64)) ∧ ∀ k, (Value.slice a len cap).ownBlock = some k → k < hi
theorem IntsOwn.wide {e : TypeId} {lo hi lo' hi' : Nat} {w : World} {a : Option Addr} {len cap : Nat} {xs : List Int} (h : IntsOwn e lo hi w a len cap xs) (h1 : lo' ≤ lo) (h2 : hi ≤ hi') : IntsOwn e lo' hi' w a len cap xs :=
  ⟨by have := h.1; omega, own_lower h.2.1 (fun k hk => by have := (h.2.1.lt k hk).1; omega), fun k hk => by have := h.2.2 k hk; omega⟩
theorem IntsOwn.turned {e : TypeId} {lo hi : Nat} {w w' : World} {a : Option Addr} {len cap : Nat} {xs : List Int} {S : Nat → Prop} (h : IntsOwn e lo hi w a len cap xs) (ht : Turned S w w') (hS : ∀ k, lo ≤ k → k < hi → ¬ S k) : IntsOwn e lo hi w' a len cap xs :=
  ⟨h.1, own_turned h.2.1 ht (fun k hk => hS k (h.2.1.lt k hk).1 (h.2.2 k hk)), h.2.2⟩
theorem IntsOwn.rd {e : TypeId} {lo hi : Nat} {w : World} {a : Option Addr} {len cap : Nat} {xs : List Int} (h : IntsOwn e lo hi w a len cap xs) : IntsRd w a len xs :=
  ⟨by have := h.2.1.1; simpa using this, rowAt_of_own h.2.1⟩
theorem IntsOwn.max {e : TypeId} {lo hi : Nat} {w : World} {a : Option Addr} {len cap : Nat} {xs : List Int} (h : IntsOwn e lo hi w a len cap xs) : len ≤ maxLen := Nat.le_trans (own_cap h.2.1).1 (own_cap h.2.1).2

theorem IntsOwn.nil {e : TypeId} {lo hi : Nat} {w : World} {a : Option Addr} {len cap : Nat} {xs : List Int} (h : IntsOwn e lo hi w a len cap xs) (ha : a = none) : cap = 0 := by
  subst ha
  exact own_nil h.2.1

/-- The elements, one range behind the other. -/
def ListOwn {α : Type} (R : OwnRel α) : Nat → Nat → World → List (List Value) → List α → Prop
  | lo, hi, _, [], [] => lo ≤ hi
  | lo, hi, w, c :: cs, x :: xs => ∃ m, R lo m w c x ∧ ListOwn R m hi w cs xs
  | _, _, _, _, _ => False
theorem ListOwn.le {α : Type} {R : OwnRel α} (hR : Keeps R) {hi : Nat} {w : World} : ∀ {lo : Nat} {cs : List (List Value)} {xs : List α}, ListOwn R lo hi w cs xs → lo ≤ hi
  | _, [], [], h => h
  | _, _ :: _, _ :: _, ⟨_, h1, h2⟩ => Nat.le_trans (hR.le h1) (ListOwn.le hR h2)
  | _, [], _ :: _, h => h.elim
  | _, _ :: _, [], h => h.elim
theorem ListOwn.wide {α : Type} {R : OwnRel α} (hR : Keeps R) {hi hi' : Nat} {w : World} (h2 : hi ≤ hi') : ∀ {lo lo' : Nat} {cs : List (List Value)} {xs : List α}, ListOwn R lo hi w cs xs → lo' ≤ lo → ListOwn R lo' hi' w cs xs
  | lo, lo', [], [], h, h1 => by have h : lo ≤ hi := h; show lo' ≤ hi'; omega
  | _, _, _ :: _, _ :: _, ⟨m, h3, h4⟩, h1 => ⟨m, hR.wide h3 h1 (Nat.le_refl _), ListOwn.wide hR h2 h4 (Nat.le_refl _)⟩
  | _, _, [], _ :: _, h, _ => h.elim
  | _, _, _ :: _, [], h, _ => h.elim
theorem ListOwn.turned {α : Type} {R : OwnRel α} (hR : Keeps R) {hi : Nat} {w w' : World} {S : Nat → Prop} (ht : Turned S w w') : ∀ {lo : Nat} {cs : List (List Value)} {xs : List α}, ListOwn R lo hi w cs xs → (∀ k, lo ≤ k → k < hi → ¬ S k) → ListOwn R lo hi w' cs xs
  | _, [], [], h, _ => h
  | _, _ :: _, _ :: _, ⟨m, h3, h4⟩, hS => ⟨m, hR.turned h3 ht (fun k h5 h6 => hS k h5 (by have := ListOwn.le hR h4; omega)), ListOwn.turned hR ht h4 (fun k h5 h6 => hS k (by have := hR.le h3; omega) h6)⟩
  | _, [], _ :: _, h, _ => h.elim
  | _, _ :: _, [], h, _ => h.elim
theorem ListOwn.snoc {α : Type} {R : OwnRel α} {m hi : Nat} {w : World} {c : List Value} {x : α} (hc : R m hi w c x) (hR : Keeps R) : ∀ {lo : Nat} {cs : List (List Value)} {xs : List α}, ListOwn R lo m w cs xs → ListOwn R lo hi w (cs ++ [c]) (xs ++ [x])
  | _, [], [], h => ⟨hi, hR.wide hc h (Nat.le_refl _), Nat.le_refl _⟩
  | _, _ :: _, _ :: _, ⟨p, h1, h2⟩ => ⟨p, h1, ListOwn.snoc hc hR h2⟩
  | _, [], _ :: _, h => h.elim
  | _, _ :: _, [], h => h.elim
theorem ListOwn.get {α : Type} {R : OwnRel α} {hi : Nat} {w : World} : ∀ {lo : Nat} {cs : List (List Value)} {xs : List α} {i : Nat} {c : List Value} {x : α}, ListOwn R lo hi w cs xs → cs[i]? = some c → xs[i]? = some x → ∃ l m, R l m w c x
  | _, _ :: _, _ :: _, 0, _, _, ⟨_, h1, _⟩, hc, hx => by simp at hc hx; subst hc; subst hx; exact ⟨_, _, h1⟩
  | _, _ :: _, _ :: _, i + 1, _, _, ⟨_, _, h2⟩, hc, hx => ListOwn.get h2 (i := i) (by simpa using hc) (by simpa using hx)
  | _, [], [], _, _, _, _, hc, _ => by simp at hc
  | _, [], _ :: _, _, _, _, h, _, _ => h.elim
  | _, _ :: _, [], _, _, _, h, _, _ => h.elim
theorem ListOwn.length {α : Type} {R : OwnRel α} {hi : Nat} {w : World} : ∀ {lo : Nat} {cs : List (List Value)} {xs : List α}, ListOwn R lo hi w cs xs → cs.length = xs.length
  | _, [], [], _ => rfl
  | _, _ :: _, _ :: _, ⟨_, _, h2⟩ => by simp [ListOwn.length h2]
  | _, [], _ :: _, h => h.elim
  | _, _ :: _, [], h => h.elim

/-- A slice of structs that a call has made: its own block, and behind it the elements' memory. -/
def SliceOwn {α : Type} (s : Nat) (e : TypeId) (R : OwnRel α) (lo hi : Nat) (w : World) (a : Option Addr) (len cap : Nat) (xs : List α) : Prop :=
  ∃ cells m, lo ≤ m ∧ w.ownsRow lo e s (.slice a len cap) len cells.flatten ∧ (∀ k, (Value.slice a len cap).ownBlock = some k → k < m) ∧ (∀ c ∈ cells, c.length = s) ∧ cells.length = len ∧ ListOwn R m hi w cells xs
theorem SliceOwn.le {α : Type} {s : Nat} {e : TypeId} {R : OwnRel α} (hR : Keeps R) {lo hi : Nat} {w : World} {a : Option Addr} {len cap : Nat} {xs : List α} (h : SliceOwn s e R lo hi w a len cap xs) : lo ≤ hi := by
  obtain ⟨cells, m, h1, _, _, _, _, h2⟩ := h
  exact Nat.le_trans h1 (h2.le hR)
theorem SliceOwn.wide {α : Type} {s : Nat} {e : TypeId} {R : OwnRel α} (hR : Keeps R) {lo hi lo' hi' : Nat} {w : World} {a : Option Addr} {len cap : Nat} {xs : List α} (h : SliceOwn s e R lo hi w a len cap xs) (h1 : lo' ≤ lo) (h2 : hi ≤ hi') : SliceOwn s e R lo' hi' w a len cap xs := by
  obtain ⟨cells, m, h3, h4, h5, h6, h7, h8⟩ := h
  exact ⟨cells, m, by omega, own_lower h4 (fun k hk => by have := (h4.lt k hk).1; omega), h5, h6, h7, h8.wide hR h2 (Nat.le_refl _)⟩
theorem SliceOwn.turned {α : Type} {s : Nat} {e : TypeId} {R : OwnRel α} (hR : Keeps R) {lo hi : Nat} {w w' : World} {a : Option Addr} {len cap : Nat} {xs : List α} {S : Nat → Prop} (h : SliceOwn s e R lo hi w a len cap xs) (ht : Turned S w w') (hS : ∀ k, lo ≤ k → k < hi → ¬ S k) : SliceOwn s e R lo hi w' a len cap xs := by
  obtain ⟨cells, m, h3, h4, h5, h6, h7, h8⟩ := h
  exact ⟨cells, m, h3, own_turned h4 ht (fun k hk => hS k (h4.lt k hk).1 (by have := h5 k hk; have := h8.le hR; omega)), h5, h6, h7, h8.turned hR ht (fun k h9 h10 => hS k (by omega) h10)⟩
theorem SliceOwn.max {α : Type} {s : Nat} {e : TypeId} {R : OwnRel α} {lo hi : Nat} {w : World} {a : Option Addr} {len cap : Nat} {xs : List α} (h : SliceOwn s e R lo hi w a len cap xs) : len ≤ maxLen := by
  obtain ⟨cells, m, h3, h4, _⟩ := h
  exact Nat.le_trans (own_cap h4).1 (own_cap h4).2
theorem SliceOwn.nil {α : Type} {s : Nat} {e : TypeId} {R : OwnRel α} {lo hi : Nat} {w : World} {a : Option Addr} {len cap : Nat} {xs : List α} (h : SliceOwn s e R lo hi w a len cap xs) (ha : a = none) : cap = 0 := by
  subst ha
  obtain ⟨cells, m, h3, h4, _⟩ := h
  exact own_nil h4
theorem SliceOwn.rd {α : Type} {s : Nat} {e : TypeId} {R : OwnRel α} {R' : World → List Value → α → Prop} (hR : ∀ lo hi w c x, R lo hi w c x → R' w c x) {lo hi : Nat} {w : World} {a : Option Addr} {len cap : Nat} {xs : List α} (h : SliceOwn s e R lo hi w a len cap xs) : SliceRd s R' w a len xs := by
  obtain ⟨cells, m, h3, h4, h5, h6, h7, h8⟩ := h
  exact ⟨by rw [← h8.length, h7], cells, rowAt_of_own h4, h7, h6, fun i c x hc hx => by obtain ⟨l, n, h9⟩ := h8.get hc hx; exact hR _ _ _ _ _ h9⟩

/-- While a row is being filled: the elements done, then zeros; the row's block lies ahead of the elements' memory. -/
def SliceFill {α : Type} (s : Nat) (e : TypeId) (R : OwnRel α) (g hi : Nat) (w : World) (len : Nat) (z : List Value) (xs : List α) : Prop :=
  ∃ cells, xs.length ≤ len ∧ z.length = s ∧ w.ownsRow g e s (.slice (some ⟨g, 0, none⟩) len len) len (cells.flatten ++ (List.replicate (len - xs.length) z).flatten) ∧ (∀ c ∈ cells, c.length = s) ∧ ListOwn R (g + 1) hi w cells xs
theorem SliceFill.start {α : Type} {s : Nat} {e : TypeId} {R : OwnRel α} {g hi : Nat} {w : World} {len : Nat} {z : List Value} (h : w.ownsRow g e s (.slice (some ⟨g, 0, none⟩) len len) len (List.replicate len z).flatten) (hz : z.length = s) (hg : g < hi) : SliceFill s e R g hi w len z [] :=
  ⟨[], by simp, hz, by simpa using h, by simp, hg⟩
/-- The cells at the next place are there, and may be written. -/
theorem SliceFill.there {α : Type} {s : Nat} {e : TypeId} {R : OwnRel α} {g hi : Nat} {w0 w : World} {len : Nat} {z : List Value} {xs : List α} (h : SliceFill s e R g hi w0 len z xs) (hb : Below w0.heap.size w0 w) {k : Nat} (hk : xs.length = k) (hl : k < len) {j : Nat} {v : Value} (hv : z[j]? = some v) :
    w.cell? ⟨g, k * s + j, none⟩ = some v ∧ w.frozen? ⟨g, k * s + j, none⟩ = false := by
  obtain ⟨cells, h1, h2, h3, h4, h5⟩ := h
  subst hk
  replace h3 := ownsRow_below h3 hb
  have hj := (List.getElem?_eq_some_iff.1 hv).1
  refine ⟨?_, h3.frozenAt _⟩
  have h6 := flatten_len h4
  rw [h5.length] at h6
  have h7 := h3.cells (g := g) rfl (xs.length * s + j) v (by
    rw [List.getElem?_append_right (by omega), show xs.length * s + j - cells.flatten.length = 0 * s + j by omega]
    rw [flatten_get (c := z) (by intro c hc; rw [(List.mem_replicate.1 hc).2]; exact h2) (by rw [List.getElem?_replicate, if_pos (by omega)]) (by omega)]
    exact hv)
  have hadd : (⟨g, 0, none⟩ : Addr).add (xs.length * s + j) = ⟨g, xs.length * s + j, none⟩ := by unfold Addr.add; split <;> simp_all
  rwa [hadd] at h7
theorem own_setCells {base g cap n s : Nat} {e : TypeId} : ∀ {vs : List Value} {w : World} {A B C : List Value} {o : Nat}, A.length = o → B.length = vs.length → w.ownsRow base e s (.slice (some ⟨g, 0, none⟩) n cap) n (A ++ B ++ C) →
    (w.setCells g o vs).ownsRow base e s (.slice (some ⟨g, 0, none⟩) n cap) n (A ++ vs ++ C) ∧ w.grownBy (w.setCells g o vs) (some g)
  | [], w, A, B, C, o, _, hB, h => by
    have : B = [] := List.length_eq_zero_iff.1 hB
    subst this
    exact ⟨h, rfl, rfl, rfl, Nat.le_refl _, fun _ _ _ => rfl⟩
  | v :: vs, w, A, b :: B, C, o, hA, hB, h => by
    have h1 := h.stored o v
    have h2 : (A ++ b :: B ++ C).set o v = (A ++ [v]) ++ B ++ C := by
      rw [List.append_assoc, List.set_append_right _ _ (by omega), hA, Nat.sub_self]; simp
    rw [h2] at h1
    have h3 := own_setCells (vs := vs) (o := o + 1) (A := A ++ [v]) (B := B) (C := C) (by simp [hA]) (by simpa using hB) h1.1
    refine ⟨by have := h3.1; rw [List.append_assoc A [v] vs] at this; exact this, ?_⟩
    have h4 := h1.2
    have h5 := h3.2
    exact ⟨h5.os.trans h4.os, h5.tape.trans h4.tape, h5.output.trans h4.output, Nat.le_trans h4.size h5.size, fun k hk hne => (h5.block k (Nat.lt_of_lt_of_le hk h4.size) hne).trans (h4.block k hk hne)⟩
  | _ :: _, _, _, [], _, _, _, hB, _ => by simp at hB
theorem toList_madeCells (z : List Value) (n : Nat) (hs : 0 < z.length) : (madeCells z.toArray (n * z.length)).toList = (List.replicate n z).flatten := by
  apply List.ext_getElem?
  intro i
  have hl : ((List.replicate n z).flatten).length = n * z.length := by
    rw [flatten_len (s := z.length) (by intro c hc; rw [(List.mem_replicate.1 hc).2]), List.length_replicate]
  by_cases hi : i < n * z.length
  · have hq : i / z.length < n := by rw [Nat.div_lt_iff_lt_mul hs]; exact hi
    have hm : i % z.length < z.length := Nat.mod_lt _ hs
    have hr : (List.replicate n z).flatten[i / z.length * z.length + i % z.length]? = z[i % z.length]? := flatten_get (c := z) (by intro c hc; rw [(List.mem_replicate.1 hc).2]) (by simp [hq]) hm
    rw [Nat.div_add_mod'] at hr
    rw [hr]
    simp [madeCells, hi, hm]
  · rw [List.getElem?_eq_none (by simp [madeCells]; omega), List.getElem?_eq_none (by omega)]
/-- Some cells of a block written anew. -/
theorem heap_setCells_mid {g : Nat} {t : TypeId} : ∀ {vs : List Value} {w : World} {A B C : List Value} {o : Nat}, A.length = o → B.length = vs.length → w.heap[g]? = some (.cells (A ++ B ++ C).toArray t (0, 0)) → (w.setCells g o vs).heap[g]? = some (.cells (A ++ vs ++ C).toArray t (0, 0))
  | [], _, _, B, _, _, _, hB, h => by
    have : B = [] := List.length_eq_zero_iff.1 hB
    subst this
    exact h
  | v :: vs, w, A, b :: B, C, o, hA, hB, h => by
    have h1 := heap_setCell_same w g o _ t v h
    have h3 := heap_setCells_mid (vs := vs) (o := o + 1) (A := A ++ [v]) (B := B) (C := C) (w := w.setCell ⟨g, o, none⟩ v) (by simp [hA]) (by simpa using hB) (by
      rw [h1]
      congr 2
      rw [List.setIfInBounds_toArray, List.append_assoc, List.set_append_right _ _ (by omega), hA, Nat.sub_self]
      simp)
    rw [List.append_assoc A [v] vs] at h3
    exact h3
  | _ :: _, _, _, [], _, _, _, hB, _ => by simp at hB
theorem heap_setCells_other {g k : Nat} (hk : k ≠ g) : ∀ (vs : List Value) (w : World) (o : Nat), (w.setCells g o vs).heap[k]? = w.heap[k]?
  | [], _, _ => rfl
  | v :: vs, w, o => (heap_setCells_other hk vs (w.setCell ⟨g, o, none⟩ v) (o + 1)).trans (heap_setCell_other w ⟨g, o, none⟩ k v (fun e => hk e))
theorem heap_setCells_size {g : Nat} : ∀ (vs : List Value) (w : World) (o : Nat), (w.setCells g o vs).heap.size = w.heap.size
  | [], _, _ => rfl
  | v :: vs, w, o => (heap_setCells_size vs (w.setCell ⟨g, o, none⟩ v) (o + 1)).trans (World.size_setCell _ _ _)
theorem turned_setCells {g : Nat} : ∀ (vs : List Value) (w : World) (o : Nat), Turned (fun k => k = g) w (w.setCells g o vs)
  | [], w, _ => Turned.refl _ w
  | v :: vs, w, o => Turned.trans (b := w.setCell ⟨g, o, none⟩ v) ⟨rfl, rfl, rfl, by simp, fun k _ hk => heap_setCell_other w ⟨g, o, none⟩ k v (fun e => hk e)⟩ (turned_setCells vs (w.setCell ⟨g, o, none⟩ v) (o + 1))
/-- The three blocks of a copy: the parameter, the result, the variable. -/
structure Three (n : Nat) (P Z U : Obj) (w : World) : Prop where
  p : w.heap[n]? = some P
  z : w.heap[n + 1]? = some Z
  u : w.heap[n + 2]? = some U
theorem three_blocks (w : World) (P Z U : Obj) : Three w.heap.size P Z U (((w.alloc P).alloc Z).alloc U) ∧ (((w.alloc P).alloc Z).alloc U).heap.size = w.heap.size + 3 ∧ Below w.heap.size w (((w.alloc P).alloc Z).alloc U) := by
  have h1 := heap_alloc_new w P
  have h2 := heap_alloc_new (w.alloc P) Z
  have h3 := heap_alloc_new ((w.alloc P).alloc Z) U
  simp only [World.size_alloc] at h2 h3
  refine ⟨⟨?_, ?_, h3⟩, by simp, (((Below.refl _ _).alloc (Nat.le_refl _) _).alloc (by simp) _).alloc (by simp; omega) _⟩
  · rw [heap_alloc_old, heap_alloc_old]
    · exact h1
    · simp
    · simp; omega
  · rw [heap_alloc_old]
    · exact h2
    · simp
theorem Three.later {n : Nat} {P Z U : Obj} {w w' : World} (h : Three n P Z U w) (hb : Below w.heap.size w w') (hn : n + 3 ≤ w.heap.size) : Three n P Z U w' :=
  ⟨(hb.block _ (by omega)).trans h.p, (hb.block _ (by omega)).trans h.z, (hb.block _ (by omega)).trans h.u⟩
theorem Three.put {n : Nat} {P Z : Obj} {t : TypeId} {A B C : List Value} {w : World} (vs : List Value) (o : Nat) (h : Three n P Z (.cells (A ++ B ++ C).toArray t (0, 0)) w) (hA : A.length = o) (hB : B.length = vs.length) : Three n P Z (.cells (A ++ vs ++ C).toArray t (0, 0)) (w.setCells (n + 2) o vs) :=
  ⟨(heap_setCells_other (by omega) vs w o).trans h.p, (heap_setCells_other (by omega) vs w o).trans h.z, heap_setCells_mid hA hB h.u⟩
/-- The next element is put. -/
theorem SliceFill.put {α : Type} {s : Nat} {e : TypeId} {R : OwnRel α} (hR : Keeps R) {g hi hi' : Nat} {w w2 : World} {len : Nat} {z : List Value} {xs : List α} {c : List Value} {x : α} (h : SliceFill s e R g hi w len z xs) (hl : xs.length < len)
    (hb : Below w.heap.size w w2) (hhi : hi ≤ w.heap.size) (hc : R w.heap.size hi' w2 c x) (hcl : c.length = s) :
    SliceFill s e R g hi' (w2.setCells g (xs.length * s) c) len z (xs ++ [x]) ∧ Turned (fun k => k = g) w2 (w2.setCells g (xs.length * s) c) := by
  obtain ⟨cells, h1, h2, h3, h4, h5⟩ := h
  have h6 := flatten_len h4
  rw [h5.length] at h6
  have hgl := (h3.lt g rfl).2
  obtain ⟨m, hm⟩ : ∃ m, len - xs.length = m + 1 := ⟨len - xs.length - 1, by omega⟩
  have h7 := own_setCells (vs := c) (o := xs.length * s) (A := cells.flatten) (B := z) (C := (List.replicate m z).flatten) h6 (by omega) (by
    have := ownsRow_below h3 hb
    rw [hm, List.replicate_succ, List.flatten_cons, ← List.append_assoc] at this
    exact this)
  have ht : Turned (fun k => k = g) w2 (w2.setCells g (xs.length * s) c) := turned_of_grown h7.2 (fun k hk => by cases hk; rfl)
  refine ⟨⟨cells ++ [c], by simp; omega, h2, ?_, ?_, ?_⟩, ht⟩
  · rw [List.flatten_append, show len - (xs ++ [x]).length = m by simp; omega]
    simpa using h7.1
  · intro d hd
    rcases List.mem_append.1 hd with hd | hd
    · exact h4 d hd
    · simp at hd; subst hd; exact hcl
  · refine ListOwn.snoc (m := w.heap.size) (hR.turned hc ht (fun k h8 h9 h10 => by omega)) hR ?_
    have h8 : ListOwn R (g + 1) hi w2 cells xs := h5.turned hR (S := fun k => w.heap.size ≤ k ∧ hi ≤ k) ⟨hb.os, hb.tape, hb.output, hb.size, fun k hk _ => hb.block k hk⟩ (fun k _ hk hs => by omega)
    exact (h8.turned hR ht (fun k h9 h10 h11 => by omega)).wide hR hhi (Nat.le_refl _)
theorem SliceFill.done {α : Type} {s : Nat} {e : TypeId} {R : OwnRel α} {g hi : Nat} {w : World} {len : Nat} {z : List Value} {xs : List α} (h : SliceFill s e R g hi w len z xs) (hl : xs.length = len) : SliceOwn s e R g hi w (some ⟨g, 0, none⟩) len len xs := by
  obtain ⟨cells, h1, h2, h3, h4, h5⟩ := h
  rw [hl, Nat.sub_self, List.replicate_zero, List.flatten_nil, List.append_nil] at h3
  exact ⟨cells, g + 1, by omega, h3, fun k hk => (by simp only [Value.ownBlock, Option.some.injEq] at hk; omega), h4, by rw [h5.length, hl], h5⟩

end Go.Proofs.YtonlidgmfmgcmaaGreat

/-
  Marks on rows of structs that a call has made: what holds while the elements are marked one by one.
-/
namespace Go.Proofs.YtonlidgmfmgcmaaGreat
open Go.RowKit

theorem sumOf_le5 {α : Type} {c sz : α → Nat} (h : ∀ x, c x ≤ 5 * sz x + 5) : ∀ xs : List α, sumOf c xs ≤ 5 * szS sz xs
  | [] => Nat.zero_le _
  | x :: xs => by
    have h1 := sumOf_le5 h xs
    have h2 := h x
    simp only [szS, sumOf, List.map_cons, List.sum_cons, List.length_cons] at h1 ⊢
    omega

/-- The row's block holds pre, then cur, then post. -/
structure RowMid (w : World) (lo : Nat) (e : TypeId) (s g len cap o : Nat) (pre cur post : List Value) : Prop where
  row : w.ownsRow lo e s (.slice (some ⟨g, 0, none⟩) len cap) len (pre ++ cur ++ post)
  len : pre.length = o
theorem RowMid.cell {w : World} {lo : Nat} {e : TypeId} {s g len cap o : Nat} {pre cur post : List Value} (h : RowMid w lo e s g len cap o pre cur post) {q : Nat} {v : Value} (hv : cur[q]? = some v) : w.cell? ⟨g, o + q, none⟩ = some v := by
  have hq := (List.getElem?_eq_some_iff.1 hv).1
  have hl := h.row.1
  simp only [List.length_append] at hl
  have h1 := h.len
  rw [h.row.cellAt (o + q) (by omega), List.append_assoc, List.getElem?_append_right (by omega), h1, Nat.add_sub_cancel_left, List.getElem?_append_left hq]
  exact hv
theorem RowMid.frozen {w : World} {lo : Nat} {e : TypeId} {s g len cap o : Nat} {pre cur post : List Value} (h : RowMid w lo e s g len cap o pre cur post) (q : Nat) : w.frozen? ⟨g, o + q, none⟩ = false := h.row.frozenAt _
theorem RowMid.put {w : World} {lo : Nat} {e : TypeId} {s g len cap o : Nat} {pre cur post : List Value} (h : RowMid w lo e s g len cap o pre cur post) {q : Nat} (hq : q < cur.length) (v : Value) : RowMid (w.setCell ⟨g, o + q, none⟩ v) lo e s g len cap o pre (cur.set q v) post := by
  refine ⟨?_, h.len⟩
  have h1 := (h.row.stored (o + q) v).1
  have h2 : (pre ++ cur ++ post).set (o + q) v = pre ++ cur.set q v ++ post := by
    have hl := h.len
    rw [List.append_assoc, List.set_append_right _ _ (by omega), hl, Nat.add_sub_cancel_left, List.set_append_left _ _ hq, List.append_assoc]
  rwa [h2] at h1
theorem RowMid.turned {w w' : World} {S : Nat → Prop} {lo : Nat} {e : TypeId} {s g len cap o : Nat} {pre cur post : List Value} (h : RowMid w lo e s g len cap o pre cur post) (ht : Turned S w w') (hS : ¬ S g) : RowMid w' lo e s g len cap o pre cur post :=
  ⟨own_turned h.row ht (fun k hk => by cases hk; exact hS), h.len⟩
theorem turned_store (w : World) (g o : Nat) (v : Value) : Turned (fun k => k = g) w (w.setCell ⟨g, o, none⟩ v) :=
  ⟨rfl, rfl, rfl, by rw [World.size_setCell]; exact Nat.le_refl _, fun j _ hj => heap_setCell_other w _ j _ (fun e => hj e)⟩

/-- What is left to mark. -/
structure MarkSt {α : Type} (s : Nat) (e : TypeId) (R : OwnRel α) (lo hi g len cap : Nat) (xs : List α) (w : World) (j : Nat) (wr : World) : Prop where
  turned : Turned (fun b => lo ≤ b ∧ b < hi) w wr
  rest : ∃ pre cs m, (∀ c ∈ cs, c.length = s) ∧ cs.length = len - j ∧ RowMid wr lo e s g len cap (j * s) pre [] cs.flatten ∧ g < m ∧ ListOwn R m hi wr cs (xs.drop j)
theorem MarkSt.start {α : Type} {s : Nat} {e : TypeId} {R : OwnRel α} {lo hi g len cap : Nat} {xs : List α} {w : World} (h : SliceOwn s e R lo hi w (some ⟨g, 0, none⟩) len cap xs) : MarkSt s e R lo hi g len cap xs w 0 w := by
  obtain ⟨cells, m, h1, h2, h3, h4, h5, h6⟩ := h
  exact ⟨Turned.refl _ _, [], cells, m, h4, by omega, ⟨by simpa using h2, by simp⟩, h3 g rfl, h6⟩
/-- The next element: its cells, its memory, and what comes behind. -/
theorem MarkSt.next {α : Type} {s : Nat} {e : TypeId} {R : OwnRel α} {lo hi g len cap : Nat} {xs : List α} {w wr : World} {j : Nat} (h : MarkSt s e R lo hi g len cap xs w j wr) (hl : xs.length = len) (hj : j < len) :
    ∃ x c pre cs m m', xs[j]? = some x ∧ c.length = s ∧ (∀ c ∈ cs, c.length = s) ∧ cs.length = len - (j + 1) ∧ RowMid wr lo e s g len cap (j * s) pre c cs.flatten ∧ g < m ∧ R m m' wr c x ∧ ListOwn R m' hi wr cs (xs.drop (j + 1)) := by
  obtain ⟨pre, cs, m, h1, h2, h3, h4, h5⟩ := h.rest
  have hx : xs.drop j = xs[j]'(by omega) :: xs.drop (j + 1) := List.drop_eq_getElem_cons (by omega)
  rw [hx] at h5
  match cs, h1, h2, h3, h5 with
  | [], _, h2, _, _ => simp at h2; omega
  | c :: cs, h1, h2, h3, h5 =>
    obtain ⟨m', h6, h7⟩ := h5
    refine ⟨_, c, pre, cs, m, m', List.getElem?_eq_getElem (by omega), h1 c (by simp), fun d hd => h1 d (by simp [hd]), by simp at h2; omega, ⟨?_, h3.len⟩, h4, h6, h7⟩
    have := h3.row
    simpa using this
theorem MarkSt.step {α : Type} {s : Nat} {e : TypeId} {R : OwnRel α} {lo hi g len cap : Nat} {xs : List α} {w w' : World} {j m : Nat} {pre c : List Value} {cs : List (List Value)} (hcl : c.length = s) (h1 : ∀ c ∈ cs, c.length = s) (h2 : cs.length = len - (j + 1))
    (hr : RowMid w' lo e s g len cap (j * s) pre c cs.flatten) (hm : g < m) (hL : ListOwn R m hi w' cs (xs.drop (j + 1))) (ht : Turned (fun b => lo ≤ b ∧ b < hi) w w') : MarkSt s e R lo hi g len cap xs w (j + 1) w' := by
  refine ⟨ht, pre ++ c, cs, m, h1, h2, ⟨?_, ?_⟩, hm, hL⟩
  · have := hr.row
    simpa using this
  · have := hr.len
    rw [List.length_append, hcl, this, Nat.add_mul]; omega

end Go.Proofs.YtonlidgmfmgcmaaGreat
