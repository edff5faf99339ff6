
/-
  Rows of structs that a call has made: each element's memory lies in a range of blocks of its own.
-/
import Derived.Test.YtkhnhdgbbjppeaaRowsOf
import Derived.Test.YtkhnhdgbbjppeaaTurn
namespace Go.Proofs.Ytkhnhdgbbjppeaa
open Go.RowKit

/-- R says that cells hold a datum whose memory lies in the blocks from lo to hi. -/
abbrev OwnRel (α : Type) := Nat → Nat → World → List Value → α → Prop
/-- What a relation of memory must keep: it carries over where its blocks are not touched, and to a wider range. -/
structure Keeps {α : Type} (R : OwnRel α) : Prop where
  le : ∀ {lo hi w c x}, R lo hi w c x → lo ≤ hi
  wide : ∀ {lo hi lo' hi' w c x}, R lo hi w c x → lo' ≤ lo → hi ≤ hi' → R lo' hi' w c x
  turned : ∀ {lo hi w w' c x} {S : Nat → Prop}, R lo hi w c x → Turned S w w' → (∀ k, lo ≤ k → k < hi → ¬ S k) → R lo hi w' c x
theorem Keeps.below {α : Type} {R : OwnRel α} (hR : Keeps R) {lo hi : Nat} {w w' : World} {c : List Value} {x : α} (h : R lo hi w c x) (hb : Below w.heap.size w w') : R lo hi w' c x :=
  hR.turned (S := fun k => w.heap.size ≤ k ∧ hi ≤ k) h ⟨hb.os, hb.tape, hb.output, hb.size, fun k hk _ => hb.block k hk⟩ (fun k _ hk hs => by omega)

/-- A slice of ints that a call has made. -/
def IntsOwn (e : TypeId) (lo hi : Nat) (w : World) (a : Option Addr) (len cap : Nat) (xs : List Int) : Prop :=
  lo ≤ hi ∧ w.ownsRow lo e 1 (.slice a len cap) len (xs.map (Value.int .i64)) ∧ ∀ k, (Value.slice a len cap).ownBlock = some k → k < hi
theorem IntsOwn.wide {e : TypeId} {lo hi lo' hi' : Nat} {w : World} {a : Option Addr} {len cap : Nat} {xs : List Int} (h : IntsOwn e lo hi w a len cap xs) (h1 : lo' ≤ lo) (h2 : hi ≤ hi') : IntsOwn e lo' hi' w a len cap xs :=
  ⟨by have := h.1; omega, own_lower h.2.1 (fun k hk => by have := (h.2.1.lt k hk).1; omega), fun k hk => by have := h.2.2 k hk; omega⟩
theorem IntsOwn.turned {e : TypeId} {lo hi : Nat} {w w' : World} {a : Option Addr} {len cap : Nat} {xs : List Int} {S : Nat → Prop} (h : IntsOwn e lo hi w a len cap xs) (ht : Turned S w w') (hS : ∀ k, lo ≤ k → k < hi → ¬ S k) : IntsOwn e lo hi w' a len cap xs :=
  ⟨h.1, own_turned h.2.1 ht (fun k hk => hS k (h.2.1.lt k hk).1 (h.2.2 k hk)), h.2.2⟩
theorem IntsOwn.rd {e : TypeId} {lo hi : Nat} {w : World} {a : Option Addr} {len cap : Nat} {xs : List Int} (h : IntsOwn e lo hi w a len cap xs) : IntsRd w a len xs :=
  ⟨by have := h.2.1.1; simpa using this, rowAt_of_own h.2.1⟩
theorem IntsOwn.max {e : TypeId} {lo hi : Nat} {w : World} {a : Option Addr} {len cap : Nat} {xs : List Int} (h : IntsOwn e lo hi w a len cap xs) : len ≤ maxLen := Nat.le_trans (own_cap h.2.1).1 (own_cap h.2.1).2

theorem IntsOwn.nil {e : TypeId} {lo hi : Nat} {w : World} {a : Option Addr} {len cap : Nat} {xs : List Int} (h : IntsOwn e lo hi w a len cap xs) (ha : a = none) : cap = 0 := by
  subst ha
  exact own_nil h.2.1

/-- The elements, one range behind the other. -/
def ListOwn {α : Type} (R : OwnRel α) : Nat → Nat → World → List (List Value) → List α → Prop
  | lo, hi, _, [], [] => lo ≤ hi
  | lo, hi, w, c :: cs, x :: xs => ∃ m, R lo m w c x ∧ ListOwn R m hi w cs xs
  | _, _, _, _, _ => False
theorem ListOwn.le {α : Type} {R : OwnRel α} (hR : Keeps R) {hi : Nat} {w : World} : ∀ {lo : Nat} {cs : List (List Value)} {xs : List α}, ListOwn R lo hi w cs xs → lo ≤ hi
  | _, [], [], h => h
  | _, _ :: _, _ :: _, ⟨_, h1, h2⟩ => Nat.le_trans (hR.le h1) (ListOwn.le hR h2)
  | _, [], _ :: _, h => h.elim
  | _, _ :: _, [], h => h.elim
theorem ListOwn.wide {α : Type} {R : OwnRel α} (hR : Keeps R) {hi hi' : Nat} {w : World} (h2 : hi ≤ hi') : ∀ {lo lo' : Nat} {cs : List (List Value)} {xs : List α}, ListOwn R lo hi w cs xs → lo' ≤ lo → ListOwn R lo' hi' w cs xs
  | lo, lo', [], [], h, h1 => by have h : lo ≤ hi := h; show lo' ≤ hi'; omega
  | _, _, _ :: _, _ :: _, ⟨m, h3, h4⟩, h1 => ⟨m, hR.wide h3 h1 (Nat.le_refl _), ListOwn.wide hR h2 h4 (Nat.le_refl _)⟩
  | _, _, [], _ :: _, h, _ => h.elim
  | _, _, _ :: _, [], h, _ => h.elim
theorem ListOwn.turned {α : Type} {R : OwnRel α} (hR : Keeps R) {hi : Nat} {w w' : World} {S : Nat → Prop} (ht : Turned S w w') : ∀ {lo : Nat} {cs : List (List Value)} {xs : List α}, ListOwn R lo hi w cs xs → (∀ k, lo ≤ k → k < hi → ¬ S k) → ListOwn R lo hi w' cs xs
  | _, [], [], h, _ => h
  | _, _ :: _, _ :: _, ⟨m, h3, h4⟩, hS => ⟨m, hR.turned h3 ht (fun k h5 h6 => hS k h5 (by have := ListOwn.le hR h4; omega)), ListOwn.turned hR ht h4 (fun k h5 h6 => hS k (by have := hR.le h3; omega) h6)⟩
  | _, [], _ :: _, h, _ => h.elim
  | _, _ :: _, [], h, _ => h.elim
theorem ListOwn.snoc {α : Type} {R : OwnRel α} {m hi : Nat} {w : World} {c : List Value} {x : α} (hc : R m hi w c x) (hR : Keeps R) : ∀ {lo : Nat} {cs : List (List Value)} {xs : List α}, ListOwn R lo m w cs xs → ListOwn R lo hi w (cs ++ [c]) (xs ++ [x])
  | _, [], [], h => ⟨hi, hR.wide hc h (Nat.le_refl _), Nat.le_refl _⟩
  | _, _ :: _, _ :: _, ⟨p, h1, h2⟩ => ⟨p, h1, ListOwn.snoc hc hR h2⟩
  | _, [], _ :: _, h => h.elim
  | _, _ :: _, [], h => h.elim
theorem ListOwn.get {α : Type} {R : OwnRel α} {hi : Nat} {w : World} : ∀ {lo : Nat} {cs : List (List Value)} {xs : List α} {i : Nat} {c : List Value} {x : α}, ListOwn R lo hi w cs xs → cs[i]? = some c → xs[i]? = some x → ∃ l m, R l m w c x
  | _, _ :: _, _ :: _, 0, _, _, ⟨_, h1, _⟩, hc, hx => by simp at hc hx; subst hc; subst hx; exact ⟨_, _, h1⟩
  | _, _ :: _, _ :: _, i + 1, _, _, ⟨_, _, h2⟩, hc, hx => ListOwn.get h2 (i := i) (by simpa using hc) (by simpa using hx)
  | _, [], [], _, _, _, _, hc, _ => by simp at hc
  | _, [], _ :: _, _, _, _, h, _, _ => h.elim
  | _, _ :: _, [], _, _, _, h, _, _ => h.elim
theorem ListOwn.length {α : Type} {R : OwnRel α} {hi : Nat} {w : World} : ∀ {lo : Nat} {cs : List (List Value)} {xs : List α}, ListOwn R lo hi w cs xs → cs.length = xs.length
  | _, [], [], _ => rfl
  | _, _ :: _, _ :: _, ⟨_, _, h2⟩ => by simp [ListOwn.length h2]
  | _, [], _ :: _, h => h.elim
  | _, _ :: _, [], h => h.elim

/-- A slice of structs that a call has made: its own block, and behind it the elements' memory. -/
def SliceOwn {α : Type} (s : Nat) (e : TypeId) (R : OwnRel α) (lo hi : Nat) (w : World) (a : Option Addr) (len cap : Nat) (xs : List α) : Prop :=
  ∃ cells m, lo ≤ m ∧ w.ownsRow lo e s (.slice a len cap) len cells.flatten ∧ (∀ k, (Value.slice a len cap).ownBlock = some k → k < m) ∧ (∀ c ∈ cells, c.length = s) ∧ cells.length = len ∧ ListOwn R m hi w cells xs
theorem SliceOwn.le {α : Type} {s : Nat} {e : TypeId} {R : OwnRel α} (hR : Keeps R) {lo hi : Nat} {w : World} {a : Option Addr} {len cap : Nat} {xs : List α} (h : SliceOwn s e R lo hi w a len cap xs) : lo ≤ hi := by
  obtain ⟨cells, m, h1, _, _, _, _, h2⟩ := h
  exact Nat.le_trans h1 (h2.le hR)
theorem SliceOwn.wide {α : Type} {s : Nat} {e : TypeId} {R : OwnRel α} (hR : Keeps R) {lo hi lo' hi' : Nat} {w : World} {a : Option Addr} {len cap : Nat} {xs : List α} (h : SliceOwn s e R lo hi w a len cap xs) (h1 : lo' ≤ lo) (h2 : hi ≤ hi') : SliceOwn s e R lo' hi' w a len cap xs := by
  obtain ⟨cells, m, h3, h4, h5, h6, h7, h8⟩ := h
  exact ⟨cells, m, by omega, own_lower h4 (fun k hk => by have := (h4.lt k hk).1; omega), h5, h6, h7, h8.wide hR h2 (Nat.le_refl _)⟩
theorem SliceOwn.turned {α : Type} {s : Nat} {e : TypeId} {R : OwnRel α} (hR : Keeps R) {lo hi : Nat} {w w' : World} {a : Option Addr} {len cap : Nat} {xs : List α} {S : Nat → Prop} (h : SliceOwn s e R lo hi w a len cap xs) (ht : Turned S w w') (hS : ∀ k, lo ≤ k → k < hi → ¬ S k) : SliceOwn s e R lo hi w' a len cap xs := by
  obtain ⟨cells, m, h3, h4, h5, h6, h7, h8⟩ := h
  exact ⟨cells, m, h3, own_turned h4 ht (fun k hk => hS k (h4.lt k hk).1 (by have := h5 k hk; have := h8.le hR; omega)), h5, h6, h7, h8.turned hR ht (fun k h9 h10 => hS k (by omega) h10)⟩
theorem SliceOwn.max {α : Type} {s : Nat} {e : TypeId} {R : OwnRel α} {lo hi : Nat} {w : World} {a : Option Addr} {len cap : Nat} {xs : List α} (h : SliceOwn s e R lo hi w a len cap xs) : len ≤ maxLen := by
  obtain ⟨cells, m, h3, h4, _⟩ := h
  exact Nat.le_trans (own_cap h4).1 (own_cap h4).2
theorem SliceOwn.nil {α : Type} {s : Nat} {e : TypeId} {R : OwnRel α} {lo hi : Nat} {w : World} {a : Option Addr} {len cap : Nat} {xs : List α} (h : SliceOwn s e R lo hi w a len cap xs) (ha : a = none) : cap = 0 := by
  subst ha
  obtain ⟨cells, m, h3, h4, _⟩ := h
  exact own_nil h4
theorem SliceOwn.rd {α : Type} {s : Nat} {e : TypeId} {R : OwnRel α} {R' : World → List Value → α → Prop} (hR : ∀ lo hi w c x, R lo hi w c x → R' w c x) {lo hi : Nat} {w : World} {a : Option Addr} {len cap : Nat} {xs : List α} (h : SliceOwn s e R lo hi w a len cap xs) : SliceRd s R' w a len xs := by
  obtain ⟨cells, m, h3, h4, h5, h6, h7, h8⟩ := h
  exact ⟨by rw [← h8.length, h7], cells, rowAt_of_own h4, h7, h6, fun i c x hc hx => by obtain ⟨l, n, h9⟩ := h8.get hc hx; exact hR _ _ _ _ _ h9⟩

/-- While a row is being filled: the elements done, then zeros; the row's block lies ahead of the elements' memory. -/
def SliceFill {α : Type} (s : Nat) (e : TypeId) (R : OwnRel α) (g hi : Nat) (w : World) (len : Nat) (z : List Value) (xs : List α) : Prop :=
  ∃ cells, xs.length ≤ len ∧ z.length = s ∧ w.ownsRow g e s (.slice (some ⟨g, 0, none⟩) len len) len (cells.flatten ++ (List.replicate (len - xs.length) z).flatten) ∧ (∀ c ∈ cells, c.length = s) ∧ ListOwn R (g + 1) hi w cells xs
theorem SliceFill.start {α : Type} {s : Nat} {e : TypeId} {R : OwnRel α} {g hi : Nat} {w : World} {len : Nat} {z : List Value} (h : w.ownsRow g e s (.slice (some ⟨g, 0, none⟩) len len) len (List.replicate len z).flatten) (hz : z.length = s) (hg : g < hi) : SliceFill s e R g hi w len z [] :=
  ⟨[], by simp, hz, by simpa using h, by simp, hg⟩
/-- The cells at the next place are there, and may be written. -/
theorem SliceFill.there {α : Type} {s : Nat} {e : TypeId} {R : OwnRel α} {g hi : Nat} {w0 w : World} {len : Nat} {z : List Value} {xs : List α} (h : SliceFill s e R g hi w0 len z xs) (hb : Below w0.heap.size w0 w) {k : Nat} (hk : xs.length = k) (hl : k < len) {j : Nat} {v : Value} (hv : z[j]? = some v) :
    w.cell? ⟨g, k * s + j, none⟩ = some v ∧ w.frozen? ⟨g, k * s + j, none⟩ = false := by
  obtain ⟨cells, h1, h2, h3, h4, h5⟩ := h
  subst hk
  replace h3 := ownsRow_below h3 hb
  have hj := (List.getElem?_eq_some_iff.1 hv).1
  refine ⟨?_, h3.frozenAt _⟩
  have h6 := flatten_len h4
  rw [h5.length] at h6
  have h7 := h3.cells (g := g) rfl (xs.length * s + j) v (by
    rw [List.getElem?_append_right (by omega), show xs.length * s + j - cells.flatten.length = 0 * s + j by omega]
    rw [flatten_get (c := z) (by intro c hc; rw [(List.mem_replicate.1 hc).2]; exact h2) (by rw [List.getElem?_replicate, if_pos (by omega)]) (by omega)]
    exact hv)
  have hadd : (⟨g, 0, none⟩ : Addr).add (xs.length * s + j) = ⟨g, xs.length * s + j, none⟩ := by unfold Addr.add; split <;> simp_all
  rwa [hadd] at h7
theorem own_setCells {base g cap n s : Nat} {e : TypeId} : ∀ {vs : List Value} {w : World} {A B C : List Value} {o : Nat}, A.length = o → B.length = vs.length → w.ownsRow base e s (.slice (some ⟨g, 0, none⟩) n cap) n (A ++ B ++ C) →
    (w.setCells g o vs).ownsRow base e s (.slice (some ⟨g, 0, none⟩) n cap) n (A ++ vs ++ C) ∧ w.grownBy (w.setCells g o vs) (some g)
  | [], w, A, B, C, o, _, hB, h => by
    have : B = [] := List.length_eq_zero_iff.1 hB
    subst this
    exact ⟨h, rfl, rfl, rfl, Nat.le_refl _, fun _ _ _ => rfl⟩
  | v :: vs, w, A, b :: B, C, o, hA, hB, h => by
    have h1 := h.stored o v
    have h2 : (A ++ b :: B ++ C).set o v = (A ++ [v]) ++ B ++ C := by
      rw [List.append_assoc, List.set_append_right _ _ (by omega), hA, Nat.sub_self]; simp
    rw [h2] at h1
    have h3 := own_setCells (vs := vs) (o := o + 1) (A := A ++ [v]) (B := B) (C := C) (by simp [hA]) (by simpa using hB) h1.1
    refine ⟨by have := h3.1; rw [List.append_assoc A [v] vs] at this; exact this, ?_⟩
    have h4 := h1.2
    have h5 := h3.2
    exact ⟨h5.os.trans h4.os, h5.tape.trans h4.tape, h5.output.trans h4.output, Nat.le_trans h4.size h5.size, fun k hk hne => (h5.block k (Nat.lt_of_lt_of_le hk h4.size) hne).trans (h4.block k hk hne)⟩
  | _ :: _, _, _, [], _, _, _, hB, _ => by simp at hB
theorem toList_madeCells (z : List Value) (n : Nat) (hs : 0 < z.length) : (madeCells z.toArray (n * z.length)).toList = (List.replicate n z).flatten := by
  apply List.ext_getElem?
  intro i
  have hl : ((List.replicate n z).flatten).length = n * z.length := by
    rw [flatten_len (s := z.length) (by intro c hc; rw [(List.mem_replicate.1 hc).2]), List.length_replicate]
  by_cases hi : i < n * z.length
  · have hq : i / z.length < n := by rw [Nat.div_lt_iff_lt_mul hs]; exact hi
    have hm : i % z.length < z.length := Nat.mod_lt _ hs
    have hr : (List.replicate n z).flatten[i / z.length * z.length + i % z.length]? = z[i % z.length]? := flatten_get (c := z) (by intro c hc; rw [(List.mem_replicate.1 hc).2]) (by simp [hq]) hm
    rw [Nat.div_add_mod'] at hr
    rw [hr]
    simp [madeCells, hi, hm]
  · rw [List.getElem?_eq_none (by simp [madeCells]; omega), List.getElem?_eq_none (by omega)]
/-- Some cells of a block written anew. -/
theorem heap_setCells_mid {g : Nat} {t : TypeId} : ∀ {vs : List Value} {w : World} {A B C : List Value} {o : Nat}, A.length = o → B.length = vs.length → w.heap[g]? = some (.cells (A ++ B ++ C).toArray t (0, 0)) → (w.setCells g o vs).heap[g]? = some (.cells (A ++ vs ++ C).toArray t (0, 0))
  | [], _, _, B, _, _, _, hB, h => by
    have : B = [] := List.length_eq_zero_iff.1 hB
    subst this
    exact h
  | v :: vs, w, A, b :: B, C, o, hA, hB, h => by
    have h1 := heap_setCell_same w g o _ t v h
    have h3 := heap_setCells_mid (vs := vs) (o := o + 1) (A := A ++ [v]) (B := B) (C := C) (w := w.setCell ⟨g, o, none⟩ v) (by simp [hA]) (by simpa using hB) (by
      rw [h1]
      congr 2
      rw [List.setIfInBounds_toArray, List.append_assoc, List.set_append_right _ _ (by omega), hA, Nat.sub_self]
      simp)
    rw [List.append_assoc A [v] vs] at h3
    exact h3
  | _ :: _, _, _, [], _, _, _, hB, _ => by simp at hB
theorem heap_setCells_other {g k : Nat} (hk : k ≠ g) : ∀ (vs : List Value) (w : World) (o : Nat), (w.setCells g o vs).heap[k]? = w.heap[k]?
  | [], _, _ => rfl
  | v :: vs, w, o => (heap_setCells_other hk vs (w.setCell ⟨g, o, none⟩ v) (o + 1)).trans (heap_setCell_other w ⟨g, o, none⟩ k v (fun e => hk e))
theorem heap_setCells_size {g : Nat} : ∀ (vs : List Value) (w : World) (o : Nat), (w.setCells g o vs).heap.size = w.heap.size
  | [], _, _ => rfl
  | v :: vs, w, o => (heap_setCells_size vs (w.setCell ⟨g, o, none⟩ v) (o + 1)).trans (World.size_setCell _ _ _)
theorem turned_setCells {g : Nat} : ∀ (vs : List Value) (w : World) (o : Nat), Turned (fun k => k = g) w (w.setCells g o vs)
  | [], w, _ => Turned.refl _ w
  | v :: vs, w, o => Turned.trans (b := w.setCell ⟨g, o, none⟩ v) ⟨rfl, rfl, rfl, by simp, fun k _ hk => heap_setCell_other w ⟨g, o, none⟩ k v (fun e => hk e)⟩ (turned_setCells vs (w.setCell ⟨g, o, none⟩ v) (o + 1))
/-- The three blocks of a copy: the parameter, the result, the variable. -/
structure Three (n : Nat) (P Z U : Obj) (w : World) : Prop where
  p : w.heap[n]? = some P
  z : w.heap[n + 1]? = some Z
  u : w.heap[n + 2]? = some U
theorem three_blocks (w : World) (P Z U : Obj) : Three w.heap.size P Z U (((w.alloc P).alloc Z).alloc U) ∧ (((w.alloc P).alloc Z).alloc U).heap.size = w.heap.size + 3 ∧ Below w.heap.size w (((w.alloc P).alloc Z).alloc U) := by
  have h1 := heap_alloc_new w P
  have h2 := heap_alloc_new (w.alloc P) Z
  have h3 := heap_alloc_new ((w.alloc P).alloc Z) U
  simp only [World.size_alloc] at h2 h3
  refine ⟨⟨?_, ?_, h3⟩, by simp, (((Below.refl _ _).alloc (Nat.le_refl _) _).alloc (by simp) _).alloc (by simp; omega) _⟩
  · rw [heap_alloc_old, heap_alloc_old]
    · exact h1
    · simp
    · simp; omega
  · rw [heap_alloc_old]
    · exact h2
    · simp
theorem Three.later {n : Nat} {P Z U : Obj} {w w' : World} (h : Three n P Z U w) (hb : Below w.heap.size w w') (hn : n + 3 ≤ w.heap.size) : Three n P Z U w' :=
  ⟨(hb.block _ (by omega)).trans h.p, (hb.block _ (by omega)).trans h.z, (hb.block _ (by omega)).trans h.u⟩
theorem Three.put {n : Nat} {P Z : Obj} {t : TypeId} {A B C : List Value} {w : World} (vs : List Value) (o : Nat) (h : Three n P Z (.cells (A ++ B ++ C).toArray t (0, 0)) w) (hA : A.length = o) (hB : B.length = vs.length) : Three n P Z (.cells (A ++ vs ++ C).toArray t (0, 0)) (w.setCells (n + 2) o vs) :=
  ⟨(heap_setCells_other (by omega) vs w o).trans h.p, (heap_setCells_other (by omega) vs w o).trans h.z, heap_setCells_mid hA hB h.u⟩
/-- The next element is put. -/
theorem SliceFill.put {α : Type} {s : Nat} {e : TypeId} {R : OwnRel α} (hR : Keeps R) {g hi hi' : Nat} {w w2 : World} {len : Nat} {z : List Value} {xs : List α} {c : List Value} {x : α} (h : SliceFill s e R g hi w len z xs) (hl : xs.length < len)
    (hb : Below w.heap.size w w2) (hhi : hi ≤ w.heap.size) (hc : R w.heap.size hi' w2 c x) (hcl : c.length = s) :
    SliceFill s e R g hi' (w2.setCells g (xs.length * s) c) len z (xs ++ [x]) ∧ Turned (fun k => k = g) w2 (w2.setCells g (xs.length * s) c) := by
  obtain ⟨cells, h1, h2, h3, h4, h5⟩ := h
  have h6 := flatten_len h4
  rw [h5.length] at h6
  have hgl := (h3.lt g rfl).2
  obtain ⟨m, hm⟩ : ∃ m, len - xs.length = m + 1 := ⟨len - xs.length - 1, by omega⟩
  have h7 := own_setCells (vs := c) (o := xs.length * s) (A := cells.flatten) (B := z) (C := (List.replicate m z).flatten) h6 (by omega) (by
    have := ownsRow_below h3 hb
    rw [hm, List.replicate_succ, List.flatten_cons, ← List.append_assoc] at this
    exact this)
  have ht : Turned (fun k => k = g) w2 (w2.setCells g (xs.length * s) c) := turned_of_grown h7.2 (fun k hk => by cases hk; rfl)
  refine ⟨⟨cells ++ [c], by simp; omega, h2, ?_, ?_, ?_⟩, ht⟩
  · rw [List.flatten_append, show len - (xs ++ [x]).length = m by simp; omega]
    simpa using h7.1
  · intro d hd
    rcases List.mem_append.1 hd with hd | hd
    · exact h4 d hd
    · simp at hd; subst hd; exact hcl
  · refine ListOwn.snoc (m := w.heap.size) (hR.turned hc ht (fun k h8 h9 h10 => by omega)) hR ?_
    have h8 : ListOwn R (g + 1) hi w2 cells xs := h5.turned hR (S := fun k => w.heap.size ≤ k ∧ hi ≤ k) ⟨hb.os, hb.tape, hb.output, hb.size, fun k hk _ => hb.block k hk⟩ (fun k _ hk hs => by omega)
    exact (h8.turned hR ht (fun k h9 h10 h11 => by omega)).wide hR hhi (Nat.le_refl _)
theorem SliceFill.done {α : Type} {s : Nat} {e : TypeId} {R : OwnRel α} {g hi : Nat} {w : World} {len : Nat} {z : List Value} {xs : List α} (h : SliceFill s e R g hi w len z xs) (hl : xs.length = len) : SliceOwn s e R g hi w (some ⟨g, 0, none⟩) len len xs := by
  obtain ⟨cells, h1, h2, h3, h4, h5⟩ := h
  rw [hl, Nat.sub_self, List.replicate_zero, List.flatten_nil, List.append_nil] at h3
  exact ⟨cells, g + 1, by omega, h3, fun k hk => (by simp only [Value.ownBlock, Option.some.injEq] at hk; omega), h4, by rw [h5.length, hl], h5⟩

end Go.Proofs.Ytkhnhdgbbjppeaa
