
/-
  Small facts about memory that name no type of the program: what it means that a slice value reads as a list, and how that carries over to a later world.
-/
import Derived.Test.YtkhnhdgbbjppeaaRows
import Derived.WalkKit
import Derived.WalkSpells
import Derived.WalkLawsBesides
import Derived.Lib.Hide
import Derived.Deep.QuietTactic
import Derived.BigQuiet
namespace Go.Proofs.Ytkhnhdgbbjppeaa
open Go.RowKit

/-- The values that a slice leads to, cell by cell. -/
def RowAt (w : World) (a : Option Addr) (vs : List Value) : Prop :=
  vs = [] ∨ ∃ b off, a = some ⟨b, off, none⟩ ∧ ∀ i v, vs[i]? = some v → w.cell? ⟨b, off + i, none⟩ = some v

/-- A slice value's elements read as a list of ints. -/
structure IntsRd (w : World) (a : Option Addr) (len : Nat) (xs : List Int) : Prop where
  length : xs.length = len
  row : RowAt w a (xs.map (Value.int .i64))

/-- The same, and the slice can be cut. -/
structure IntsAt (w : World) (a : Option Addr) (len cap : Nat) (xs : List Int) : Prop extends IntsRd w a len xs where
  le : len ≤ cap
  max : cap ≤ maxLen
  addr : (a = none ∧ cap = 0) ∨ ∃ b off, a = some ⟨b, off, none⟩

theorem RowAt.later {w w' : World} {a : Option Addr} {vs : List Value} (h : RowAt w a vs) (hb : Below w.heap.size w w') : RowAt w' a vs := by
  rcases h with h | ⟨b, off, rfl, h⟩
  · exact .inl h
  · exact .inr ⟨b, off, rfl, fun i v hv => cell_later hb (h i v hv)⟩

theorem RowAt.drew {w : World} {a : Option Addr} {vs : List Value} (h : RowAt w a vs) : RowAt w.drew a vs := h

theorem IntsRd.later {w w' : World} {a : Option Addr} {len : Nat} {xs : List Int} (h : IntsRd w a len xs) (hb : Below w.heap.size w w') : IntsRd w' a len xs :=
  ⟨h.length, h.row.later hb⟩
theorem IntsAt.later {w w' : World} {a : Option Addr} {len cap : Nat} {xs : List Int} (h : IntsAt w a len cap xs) (hb : Below w.heap.size w w') : IntsAt w' a len cap xs :=
  ⟨⟨h.length, h.row.later hb⟩, h.le, h.max, h.addr⟩

/-- The place of an element that is there. -/
theorem IntsRd.place {w : World} {a : Option Addr} {len : Nat} {xs : List Int} (h : IntsRd w a len xs) {i : Nat} (hi : i < len) :
    ∃ b off x, a = some ⟨b, off, none⟩ ∧ xs[i]? = some x ∧ w.cell? ⟨b, off + i, none⟩ = some (.int .i64 x) := by
  have hl := h.length
  rcases h.row with h0 | ⟨b, off, rfl, hc⟩
  · have : xs = [] := by simpa using h0
    subst this; simp at hl; omega
  · have hx : xs[i]? = some (xs[i]'(by omega)) := List.getElem?_eq_getElem _
    exact ⟨b, off, _, rfl, hx, hc i _ (by rw [List.getElem?_map, hx]; rfl)⟩

theorem IntsRd.cell {w : World} {b off len : Nat} {xs : List Int} (h : IntsRd w (some ⟨b, off, none⟩) len xs) {i : Nat} {x : Int} (hx : xs[i]? = some x) :
    w.cell? ⟨b, off + i, none⟩ = some (.int .i64 x) := by
  rcases h.row with h0 | ⟨b', off', hab, hc⟩
  · have : xs = [] := by simpa using h0
    subst this; simp at hx
  · simp only [Option.some.injEq, Addr.mk.injEq] at hab
    obtain ⟨rfl, rfl, _⟩ := hab
    exact hc i _ (by rw [List.getElem?_map, hx]; rfl)

theorem ownsRow_below {w w' : World} {base : Nat} {e : TypeId} {size : Nat} {v : Value} {n : Nat} {xs : List Value} (h : w.ownsRow base e size v n xs) (hb : Below w.heap.size w w') :
    w'.ownsRow base e size v n xs := by
  refine ⟨h.1, ?_⟩
  rcases h.2 with hn | ⟨g, cap, cur, rfl, hbg, hgg, rest⟩
  · exact .inl hn
  · exact .inr ⟨g, cap, cur, rfl, hbg, by rw [hb.block g (Array.getElem?_eq_some_iff.1 hgg).1]; exact hgg, rest⟩

theorem rowAt_of_own {w : World} {base : Nat} {e : TypeId} {a : Option Addr} {n cap m : Nat} {xs : List Value} {size : Nat} (h : w.ownsRow base e size (.slice a n cap) m xs) : RowAt w a xs := by
  rcases h.2 with ⟨hv, rfl⟩ | ⟨g, cap', cur, hv, _, hgg, _, _, _, htake⟩
  · have := h.1; simp at this; exact .inl this
  · simp only [Value.slice.injEq] at hv
    obtain ⟨rfl, rfl, rfl⟩ := hv
    refine .inr ⟨g, 0, rfl, fun i v hv => ?_⟩
    rw [cell_of_row w g (0 + i) cur e (0, 0) hgg]
    rw [← htake, List.getElem?_take] at hv
    split at hv
    · simpa using hv
    · cases hv

theorem own_cap {w : World} {base : Nat} {e : TypeId} {a : Option Addr} {n cap : Nat} {xs : List Value} {size : Nat} (h : w.ownsRow base e size (.slice a n cap) n xs) : n ≤ cap ∧ cap ≤ maxLen := by
  rcases h.2 with ⟨hv, rfl⟩ | ⟨g, cap', cur, hv, _, hgg, h1, h2, _, htake⟩
  · simp only [Value.slice.injEq] at hv
    obtain ⟨_, _, rfl⟩ := hv; exact ⟨Nat.le_refl _, by unfold maxLen; omega⟩
  · simp only [Value.slice.injEq] at hv
    obtain ⟨_, _, rfl⟩ := hv
    exact ⟨h1, h2⟩

theorem own_nil {w : World} {base : Nat} {e : TypeId} {n cap m : Nat} {xs : List Value} {size : Nat} (h : w.ownsRow base e size (.slice none n cap) m xs) : cap = 0 := by
  rcases h.2 with ⟨hv, rfl⟩ | ⟨g, cap', cur, hv, _⟩
  · simp only [Value.slice.injEq] at hv
    exact hv.2.2
  · simp at hv

theorem own_addr {w : World} {base : Nat} {e : TypeId} {a : Option Addr} {n cap m : Nat} {xs : List Value} {size : Nat} (h : w.ownsRow base e size (.slice a n cap) m xs) :
    (a = none ∧ cap = 0) ∨ ∃ b off, a = some ⟨b, off, none⟩ := by
  rcases h.2 with ⟨hv, rfl⟩ | ⟨g, cap', cur, hv, _⟩
  · simp only [Value.slice.injEq] at hv
    exact .inl ⟨hv.1, hv.2.2⟩
  · simp only [Value.slice.injEq] at hv
    exact .inr ⟨g, 0, hv.1⟩

/-- The same row, cut at its front. -/
theorem RowAt.sub {w : World} {a : Option Addr} {vs : List Value} (h : RowAt w a vs) (l cap s : Nat) (hc : vs.length ≤ cap * s) {ao : Option Addr} (hao : ao = if cap = l then a else a.map (·.add (l * s))) :
    RowAt w ao (vs.drop (l * s)) := by
  subst hao
  rcases h with rfl | ⟨b, off, rfl, h⟩
  · exact .inl (by simp)
  · by_cases hcl : cap = l
    · subst hcl
      exact .inl (List.drop_eq_nil_of_le hc)
    · refine .inr ⟨b, off + l * s, ?_, fun i v hv => ?_⟩
      · rw [if_neg hcl]
        simp only [Option.map_some, Option.some.injEq]
        unfold Addr.add
        split
        · simp_all
        · rfl
      · rw [List.getElem?_drop] at hv
        rw [Nat.add_assoc]
        exact h _ v hv

/-- The same for one-cell elements, in the walk's spelling. -/
theorem RowAt.cut {w : World} {b off : Nat} {vs : List Value} (h : RowAt w (some ⟨b, off, none⟩) vs) (l cap : Nat) (hc : vs.length ≤ cap) :
    RowAt w (if cap = l then some ⟨b, off, none⟩ else some ⟨b, off + l, none⟩) (vs.drop l) := by
  have := h.sub l cap 1 (by omega) (ao := if cap = l then some ⟨b, off, none⟩ else some ⟨b, off + l, none⟩) (by
    split
    · rfl
    · simp only [Option.map_some, Option.some.injEq, Nat.mul_one]
      unfold Addr.add
      split
      · simp_all
      · rfl)
  simpa using this

theorem RowAt.pre {w : World} {a : Option Addr} {vs : List Value} (h : RowAt w a vs) (n : Nat) : RowAt w a (vs.take n) := by
  rcases h with rfl | ⟨b, off, rfl, h⟩
  · exact .inl (by simp)
  · refine .inr ⟨b, off, rfl, fun i v hv => h i v ?_⟩
    rw [List.getElem?_take] at hv
    split at hv
    · exact hv
    · cases hv

theorem RowAt.cells {w : World} {ad : Addr} {vs : List Value} (h : RowAt w (some ad) vs) : ∀ j u, vs[j]? = some u → w.cell? (ad.add j) = some u := by
  rcases h with rfl | ⟨b, off, hab, h⟩
  · intro j u hu; simp at hu
  · cases hab
    intro j u hu
    have hadd : (⟨b, off, none⟩ : Addr).add j = ⟨b, off + j, none⟩ := by unfold Addr.add; split <;> simp_all
    rw [hadd]
    exact h j u hu

/-- 'x[l:]' of ints, in the walk's spelling. -/
theorem IntsAt.from {w : World} {b off len cap : Nat} {xs : List Int} (h : IntsAt w (some ⟨b, off, none⟩) len cap xs) (l : Nat) :
    RowAt w (if cap = l then some ⟨b, off, none⟩ else some ⟨b, off + l, none⟩) ((xs.drop l).map (Value.int .i64)) := by
  rw [List.map_drop]
  exact h.row.cut l cap (by have := h.length; have := h.le; simp; omega)
/-- 'x[:n]' of ints. -/
theorem IntsRd.pre {w : World} {a : Option Addr} {len : Nat} {xs : List Int} (h : IntsRd w a len xs) (n : Nat) : RowAt w a ((xs.take n).map (Value.int .i64)) := by
  rw [List.map_take]
  exact h.row.pre n
theorem IntsRd.take_length {w : World} {a : Option Addr} {len : Nat} {xs : List Int} (h : IntsRd w a len xs) {n : Nat} (hn : n ≤ len) : (xs.take n).length = n := by
  have := h.length; simp; omega
theorem IntsRd.drop_length {w : World} {a : Option Addr} {len : Nat} {xs : List Int} (h : IntsRd w a len xs) (n : Nat) : (xs.drop n).length = len - n := by
  have := h.length; simp; omega

theorem ret_int {k : IntKind} {a b : Int} (h : a = b) : Ending.returned (.int k a) = .returned (.int k b) := by rw [h]
theorem ret_bool {a b : Bool} (h : a = b) : Ending.returned (.bool a) = .returned (.bool b) := by rw [h]

theorem take_succ_of {α : Type} {xs : List α} {k : Nat} {x : α} (h : xs[k]? = some x) : xs.take (k + 1) = xs.take k ++ [x] := by
  rw [List.take_add_one, h]; rfl

end Go.Proofs.Ytkhnhdgbbjppeaa
