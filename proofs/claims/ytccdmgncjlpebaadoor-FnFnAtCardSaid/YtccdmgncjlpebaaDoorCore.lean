/-
  Small facts about memory that name no type of the program: what it means that a slice value reads as a list, and how that carries over to a later world.
-/
import Derived.Test.YtccdmgncjlpebaaDoorRows
import Derived.WalkKit
import Derived.WalkSpells
import Derived.WalkLawsBesides
import Derived.Lib.Hide
import Derived.Deep.QuietTactic
import Derived.BigQuiet

namespace Go.Proofs.YtccdmgncjlpebaaDoor
open Go.RowKit

/-- The values that a slice leads to, cell by cell. -/
def RowAt (w : World) (a : Option Addr) (vs : List Value) : Prop :=
  vs = [] ∨ ∃ b off, a = some ⟨b, off, none⟩ ∧ ∀ i v, vs[i]? = some v → w.cell? ⟨b, off + i, none⟩ = some v

/-- A slice value's elements read as a list of ints. -/
structure IntsRd (w : World) (a : Option Addr) (len : Nat) (xs : List Int) : Prop where
  length : xs.length = len
  row : RowAt w a (xs.map (Value.int .i64))

theorem RowAt.later {w w' : World} {a : Option Addr} {vs : List Value} (h : RowAt w a vs) (hb : Below w.heap.size w w') : RowAt w' a vs := by
  rcases h with h | ⟨b, off, rfl, h⟩
  · exact .inl h
  · exact .inr ⟨b, off, rfl, fun i v hv => cell_later hb (h i v hv)⟩

theorem IntsRd.later {w w' : World} {a : Option Addr} {len : Nat} {xs : List Int} (h : IntsRd w a len xs) (hb : Below w.heap.size w w') : IntsRd w' a len xs :=
  ⟨h.length, h.row.later hb⟩
/-- The place of an element that is there. -/
theorem IntsRd.place {w : World} {a : Option Addr} {len : Nat} {xs : List Int} (h : IntsRd w a len xs) {i : Nat} (hi : i < len) :
    ∃ b off x, a = some ⟨b, off, none⟩ ∧ xs[i]? = some x ∧ w.cell? ⟨b, off + i, none⟩ = some (.int .i64 x) := by
  have hl := h.length
  rcases h.row with h0 | ⟨b, off, rfl, hc⟩
  · have : xs = [] := by simpa using h0
    subst this; simp at hl; omega
  · have hx : xs[i]? = some (xs[i]'(by omega)) := List.getElem?_eq_getElem _
    exact ⟨b, off, _, rfl, hx, hc i _ (by rw [List.getElem?_map, hx]; rfl)⟩

theorem ownsRow_below {w w' : World} {base : Nat} {e : TypeId} {size : Nat} {v : Value} {n : Nat} {xs : List Value} (h : w.ownsRow base e size v n xs) (hb : Below w.heap.size w w') :
    w'.ownsRow base e size v n xs := by
  refine ⟨h.1, ?_⟩
  rcases h.2 with hn | ⟨g, cap, cur, rfl, hbg, hgg, rest⟩
  · exact .inl hn
  · exact .inr ⟨g, cap, cur, rfl, hbg, by rw [hb.block g (Array.getElem?_eq_some_iff.1 hgg).1]; exact hgg, rest⟩

theorem rowAt_of_own {w : World} {base : Nat} {e : TypeId} {a : Option Addr} {n cap m : Nat} {xs : List Value} {size : Nat} (h : w.ownsRow base e size (.slice a n cap) m xs) : RowAt w a xs := by
  rcases h.2 with ⟨hv, rfl⟩ | ⟨g, cap', cur, hv, _, hgg, _, _, _, htake⟩
  · have := h.1; simp at this; exact .inl this
  · simp only [Value.slice.injEq] at hv
    obtain ⟨rfl, rfl, rfl⟩ := hv
    refine .inr ⟨g, 0, rfl, fun i v hv => ?_⟩
    rw [cell_of_row w g (0 + i) cur e (0, 0) hgg]
    rw [← htake, List.getElem?_take] at hv
    split at hv
    · simpa using hv
    · cases hv

theorem own_nil {w : World} {base : Nat} {e : TypeId} {n cap m : Nat} {xs : List Value} {size : Nat} (h : w.ownsRow base e size (.slice none n cap) m xs) : cap = 0 := by
  rcases h.2 with ⟨hv, rfl⟩ | ⟨g, cap', cur, hv, _⟩
  · simp only [Value.slice.injEq] at hv
    exact hv.2.2
  · simp at hv

theorem RowAt.pre {w : World} {a : Option Addr} {vs : List Value} (h : RowAt w a vs) (n : Nat) : RowAt w a (vs.take n) := by
  rcases h with rfl | ⟨b, off, rfl, h⟩
  · exact .inl (by simp)
  · refine .inr ⟨b, off, rfl, fun i v hv => h i v ?_⟩
    rw [List.getElem?_take] at hv
    split at hv
    · exact hv
    · cases hv

theorem RowAt.cells {w : World} {ad : Addr} {vs : List Value} (h : RowAt w (some ad) vs) : ∀ j u, vs[j]? = some u → w.cell? (ad.add j) = some u := by
  rcases h with rfl | ⟨b, off, hab, h⟩
  · intro j u hu; simp at hu
  · cases hab
    intro j u hu
    have hadd : (⟨b, off, none⟩ : Addr).add j = ⟨b, off + j, none⟩ := by unfold Addr.add; split <;> simp_all
    rw [hadd]
    exact h j u hu

theorem ret_int {k : IntKind} {a b : Int} (h : a = b) : Ending.returned (.int k a) = .returned (.int k b) := by rw [h]
theorem ret_bool {a b : Bool} (h : a = b) : Ending.returned (.bool a) = .returned (.bool b) := by rw [h]

theorem take_succ_of {α : Type} {xs : List α} {k : Nat} {x : α} (h : xs[k]? = some x) : xs.take (k + 1) = xs.take k ++ [x] := by
  rw [List.take_add_one, h]; rfl

end Go.Proofs.YtccdmgncjlpebaaDoor

/-
  Slices of elements of several cells (structs): what it means that one reads as a list.
-/
namespace Go.Proofs.YtccdmgncjlpebaaDoor
open Go.RowKit

theorem flatten_get {α : Type} {s : Nat} : ∀ {cells : List (List α)} {i j : Nat} {c : List α}, (∀ c ∈ cells, c.length = s) → cells[i]? = some c → j < s → cells.flatten[i * s + j]? = c[j]?
  | [], _, _, _, _, h, _ => by simp at h
  | d :: cells, 0, j, c, hl, h, hj => by
    simp at h
    subst h
    have h1 := hl d (by simp)
    rw [List.flatten_cons, Nat.zero_mul, Nat.zero_add, List.getElem?_append_left (by omega)]
  | d :: cells, i + 1, j, c, hl, h, hj => by
    have h1 := hl d (by simp)
    rw [List.flatten_cons, List.getElem?_append_right (by rw [Nat.add_mul]; omega), show (i + 1) * s + j - d.length = i * s + j by rw [Nat.add_mul, h1]; omega]
    exact flatten_get (fun x hx => hl x (by simp [hx])) (by simpa using h) hj

theorem flatten_len {α : Type} {s : Nat} : ∀ {cells : List (List α)}, (∀ c ∈ cells, c.length = s) → cells.flatten.length = cells.length * s
  | [], _ => by simp
  | c :: cells, h => by
    rw [List.flatten_cons, List.length_append, h c (by simp), flatten_len (fun x hx => h x (by simp [hx])), List.length_cons, Nat.add_mul]; omega

/-- A slice of elements of s cells reads as a list, element for element by R. -/
structure SliceRd {α : Type} (s : Nat) (R : World → List Value → α → Prop) (w : World) (a : Option Addr) (len : Nat) (xs : List α) : Prop where
  length : xs.length = len
  row : ∃ cells : List (List Value), RowAt w a cells.flatten ∧ cells.length = len ∧ (∀ c ∈ cells, c.length = s) ∧ ∀ (i : Nat) c x, cells[i]? = some c → xs[i]? = some x → R w c x
/-- What reads so reads so later. -/
def Lasts {α : Type} (R : World → List Value → α → Prop) : Prop := ∀ w w' c x, Below w.heap.size w w' → R w c x → R w' c x
theorem SliceRd.later {α : Type} {s : Nat} {R : World → List Value → α → Prop} (hR : Lasts R) {w w' : World} {a : Option Addr} {len : Nat} {xs : List α} (h : SliceRd s R w a len xs) (hb : Below w.heap.size w w') : SliceRd s R w' a len xs := by
  obtain ⟨hl, cells, h1, h2, h3, h4⟩ := h
  exact ⟨hl, cells, h1.later hb, h2, h3, fun i c x hc hx => hR _ _ _ _ hb (h4 i c x hc hx)⟩
theorem SliceRd.place {α : Type} {s : Nat} {R : World → List Value → α → Prop} {w : World} {a : Option Addr} {len : Nat} {xs : List α} (h : SliceRd s R w a len xs) (hs : 0 < s) {i : Nat} (hi : i < len) :
    ∃ b off cs x, a = some ⟨b, off, none⟩ ∧ xs[i]? = some x ∧ cs.length = s ∧ (∀ j v, cs[j]? = some v → w.cell? ⟨b, off + i * s + j, none⟩ = some v) ∧ R w cs x := by
  obtain ⟨hl, cells, h1, h2, h3, h4⟩ := h
  have hc : cells[i]? = some (cells[i]'(by omega)) := List.getElem?_eq_getElem _
  have hx : xs[i]? = some (xs[i]'(by omega)) := List.getElem?_eq_getElem _
  have hcl := h3 _ (List.getElem_mem (show i < cells.length by omega))
  rcases h1 with h1 | ⟨b, off, rfl, h1⟩
  · exfalso
    have h5 := flatten_get (j := 0) h3 hc hs
    rw [h1, List.getElem?_nil, List.getElem?_eq_getElem (by omega)] at h5
    cases h5
  · refine ⟨b, off, _, _, rfl, hx, hcl, fun j v hv => ?_, h4 i _ _ hc hx⟩
    have hj := (List.getElem?_eq_some_iff.1 hv).1
    rw [Nat.add_assoc]
    exact h1 _ _ (by rw [flatten_get h3 hc (by omega)]; exact hv)

end Go.Proofs.YtccdmgncjlpebaaDoor

/-
  The size of a list of data, as the laws count it.
-/
namespace Go.Proofs.YtccdmgncjlpebaaDoor
open Go.RowKit

end Go.Proofs.YtccdmgncjlpebaaDoor

/-
  Worlds that differ in some blocks alone: how what is owned carries over.
-/
namespace Go.Proofs.YtccdmgncjlpebaaDoor
open Go.RowKit

/-- w' is w but for new blocks and the blocks in S. -/
structure Turned (S : Nat → Prop) (w w' : World) : Prop where
  os : w'.os = w.os
  tape : w'.tape = w.tape
  output : w'.output = w.output
  size : w.heap.size ≤ w'.heap.size
  block : ∀ k, k < w.heap.size → ¬ S k → w'.heap[k]? = w.heap[k]?
theorem Turned.refl (S : Nat → Prop) (w : World) : Turned S w w := ⟨rfl, rfl, rfl, Nat.le_refl _, fun _ _ _ => rfl⟩
theorem Turned.trans {S : Nat → Prop} {a b c : World} (h : Turned S a b) (k : Turned S b c) : Turned S a c :=
  ⟨k.os.trans h.os, k.tape.trans h.tape, k.output.trans h.output, Nat.le_trans h.size k.size, fun i hi hn => (k.block i (Nat.lt_of_lt_of_le hi h.size) hn).trans (h.block i hi hn)⟩
theorem Turned.mono {S T : Nat → Prop} {w w' : World} (h : Turned S w w') (hST : ∀ k, S k → T k) : Turned T w w' :=
  ⟨h.os, h.tape, h.output, h.size, fun k hk hn => h.block k hk (fun hs => hn (hST k hs))⟩
theorem turned_of_grown {w w' : World} {row : Option Nat} (h : w.grownBy w' row) {S : Nat → Prop} (hS : ∀ k, row = some k → S k) : Turned S w w' :=
  ⟨h.os, h.tape, h.output, h.size, fun k hk hn => h.block k hk (fun e => hn (hS k e.symm))⟩
theorem turned_of_below {B : Nat} {w w' : World} (h : Below B w w') {S : Nat → Prop} (hS : ∀ k, B ≤ k → k < w.heap.size → S k) : Turned S w w' :=
  ⟨h.os, h.tape, h.output, h.size, fun k hk hn => h.block k (by
    rcases Nat.lt_or_ge k B with h | h
    · exact h
    · exact absurd (hS k h hk) hn)⟩
theorem Turned.below {S : Nat → Prop} {w w' : World} (h : Turned S w w') {B : Nat} (hB : B ≤ w.heap.size) (hS : ∀ k, S k → B ≤ k) : Below B w w' :=
  ⟨h.os, h.tape, h.output, h.size, fun k hk => h.block k (by omega) (fun hs => by have := hS k hs; omega)⟩
theorem own_turned {S : Nat → Prop} {w w' : World} {base : Nat} {e : TypeId} {size : Nat} {v : Value} {n : Nat} {xs : List Value} (h : w.ownsRow base e size v n xs) (ht : Turned S w w')
    (hS : ∀ k, v.ownBlock = some k → ¬ S k) : w'.ownsRow base e size v n xs := by
  refine ⟨h.1, ?_⟩
  rcases h.2 with hn | ⟨g, cap, cur, rfl, hbg, hgg, rest⟩
  · exact .inl hn
  · exact .inr ⟨g, cap, cur, rfl, hbg, by rw [ht.block g (Array.getElem?_eq_some_iff.1 hgg).1 (hS g rfl)]; exact hgg, rest⟩
theorem own_lower {w : World} {base base' : Nat} {e : TypeId} {size : Nat} {v : Value} {n : Nat} {xs : List Value} (h : w.ownsRow base e size v n xs) (hb : ∀ k, v.ownBlock = some k → base' ≤ k) : w.ownsRow base' e size v n xs := by
  refine ⟨h.1, ?_⟩
  rcases h.2 with hn | ⟨g, cap, cur, rfl, hbg, hgg, rest⟩
  · exact .inl hn
  · exact .inr ⟨g, cap, cur, rfl, hb g rfl, hgg, rest⟩

end Go.Proofs.YtccdmgncjlpebaaDoor

/-
  Rows of structs that a call has made: each element's memory lies in a range of blocks of its own.
-/
namespace Go.Proofs.YtccdmgncjlpebaaDoor
open Go.RowKit

theorem own_setCells {base g cap n s : Nat} {e : TypeId} : ∀ {vs : List Value} {w : World} {A B C : List Value} {o : Nat}, A.length = o → B.length = vs.length → w.ownsRow base e s (.slice (some ⟨g, 0, none⟩) n cap) n (A ++ B ++ C) →
    (w.setCells g o vs).ownsRow base e s (.slice (some ⟨g, 0, none⟩) n cap) n (A ++ vs ++ C) ∧ w.grownBy (w.setCells g o vs) (some g)
  | [], w, A, B, C, o, _, hB, h => by
    have : B = [] := List.length_eq_zero_iff.1 hB
    subst this
    exact ⟨h, rfl, rfl, rfl, Nat.le_refl _, fun _ _ _ => rfl⟩
  | v :: vs, w, A, b :: B, C, o, hA, hB, h => by
    have h1 := h.stored o v
    have h2 : (A ++ b :: B ++ C).set o v = (A ++ [v]) ++ B ++ C := by
      rw [List.append_assoc, List.set_append_right _ _ (by omega), hA, Nat.sub_self]; simp
    rw [h2] at h1
    have h3 := own_setCells (vs := vs) (o := o + 1) (A := A ++ [v]) (B := B) (C := C) (by simp [hA]) (by simpa using hB) h1.1
    refine ⟨by have := h3.1; rw [List.append_assoc A [v] vs] at this; exact this, ?_⟩
    have h4 := h1.2
    have h5 := h3.2
    exact ⟨h5.os.trans h4.os, h5.tape.trans h4.tape, h5.output.trans h4.output, Nat.le_trans h4.size h5.size, fun k hk hne => (h5.block k (Nat.lt_of_lt_of_le hk h4.size) hne).trans (h4.block k hk hne)⟩
  | _ :: _, _, _, [], _, _, _, hB, _ => by simp at hB
/-- Some cells of a block written anew. -/
theorem heap_setCells_mid {g : Nat} {t : TypeId} : ∀ {vs : List Value} {w : World} {A B C : List Value} {o : Nat}, A.length = o → B.length = vs.length → w.heap[g]? = some (.cells (A ++ B ++ C).toArray t (0, 0)) → (w.setCells g o vs).heap[g]? = some (.cells (A ++ vs ++ C).toArray t (0, 0))
  | [], _, _, B, _, _, _, hB, h => by
    have : B = [] := List.length_eq_zero_iff.1 hB
    subst this
    exact h
  | v :: vs, w, A, b :: B, C, o, hA, hB, h => by
    have h1 := heap_setCell_same w g o _ t v h
    have h3 := heap_setCells_mid (vs := vs) (o := o + 1) (A := A ++ [v]) (B := B) (C := C) (w := w.setCell ⟨g, o, none⟩ v) (by simp [hA]) (by simpa using hB) (by
      rw [h1]
      congr 2
      rw [List.setIfInBounds_toArray, List.append_assoc, List.set_append_right _ _ (by omega), hA, Nat.sub_self]
      simp)
    rw [List.append_assoc A [v] vs] at h3
    exact h3
  | _ :: _, _, _, [], _, _, _, hB, _ => by simp at hB
theorem heap_setCells_other {g k : Nat} (hk : k ≠ g) : ∀ (vs : List Value) (w : World) (o : Nat), (w.setCells g o vs).heap[k]? = w.heap[k]?
  | [], _, _ => rfl
  | v :: vs, w, o => (heap_setCells_other hk vs (w.setCell ⟨g, o, none⟩ v) (o + 1)).trans (heap_setCell_other w ⟨g, o, none⟩ k v (fun e => hk e))
theorem heap_setCells_size {g : Nat} : ∀ (vs : List Value) (w : World) (o : Nat), (w.setCells g o vs).heap.size = w.heap.size
  | [], _, _ => rfl
  | v :: vs, w, o => (heap_setCells_size vs (w.setCell ⟨g, o, none⟩ v) (o + 1)).trans (World.size_setCell _ _ _)
theorem turned_setCells {g : Nat} : ∀ (vs : List Value) (w : World) (o : Nat), Turned (fun k => k = g) w (w.setCells g o vs)
  | [], w, _ => Turned.refl _ w
  | v :: vs, w, o => Turned.trans (b := w.setCell ⟨g, o, none⟩ v) ⟨rfl, rfl, rfl, by simp, fun k _ hk => heap_setCell_other w ⟨g, o, none⟩ k v (fun e => hk e)⟩ (turned_setCells vs (w.setCell ⟨g, o, none⟩ v) (o + 1))
/-- The three blocks of a copy: the parameter, the result, the variable. -/
structure Three (n : Nat) (P Z U : Obj) (w : World) : Prop where
  p : w.heap[n]? = some P
  z : w.heap[n + 1]? = some Z
  u : w.heap[n + 2]? = some U
theorem three_blocks (w : World) (P Z U : Obj) : Three w.heap.size P Z U (((w.alloc P).alloc Z).alloc U) ∧ (((w.alloc P).alloc Z).alloc U).heap.size = w.heap.size + 3 ∧ Below w.heap.size w (((w.alloc P).alloc Z).alloc U) := by
  have h1 := heap_alloc_new w P
  have h2 := heap_alloc_new (w.alloc P) Z
  have h3 := heap_alloc_new ((w.alloc P).alloc Z) U
  simp only [World.size_alloc] at h2 h3
  refine ⟨⟨?_, ?_, h3⟩, by simp, (((Below.refl _ _).alloc (Nat.le_refl _) _).alloc (by simp) _).alloc (by simp; omega) _⟩
  · rw [heap_alloc_old, heap_alloc_old]
    · exact h1
    · simp
    · simp; omega
  · rw [heap_alloc_old]
    · exact h2
    · simp
end Go.Proofs.YtccdmgncjlpebaaDoor

/-
  Marks on rows of structs that a call has made: what holds while the elements are marked one by one.
-/
namespace Go.Proofs.YtccdmgncjlpebaaDoor
open Go.RowKit

theorem turned_store (w : World) (g o : Nat) (v : Value) : Turned (fun k => k = g) w (w.setCell ⟨g, o, none⟩ v) :=
  ⟨rfl, rfl, rfl, by rw [World.size_setCell]; exact Nat.le_refl _, fun j _ hj => heap_setCell_other w _ j _ (fun e => hj e)⟩

end Go.Proofs.YtccdmgncjlpebaaDoor
