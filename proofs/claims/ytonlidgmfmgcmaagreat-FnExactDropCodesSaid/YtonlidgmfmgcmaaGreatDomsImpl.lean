
/-
  The program's search for the blocks that are reached without going over one.
-/
import Derived.Test.YtonlidgmfmgcmaaGreatImplG
import Derived.Deep.LoopGhost
import Derived.Deep.DeepCutAuto

namespace Go.Proofs.YtonlidgmfmgcmaaGreat
open Go.RowKit

/-- What is still to be done, at most: one for each unseen block, and one for each of its Next. -/
def wt : List (List Int) → List Bool → Nat
  | l :: g, b :: s => (if b then 0 else l.length + 1) + wt g s
  | _, _ => 0
theorem wt_set : ∀ {g : List (List Int)} {s : List Bool} {v : Nat} {l : List Int}, s[v]? = some false → g[v]? = some l → wt g s = wt g (s.set v true) + l.length + 1
  | [], _, _, _, _, h => by simp at h
  | _ :: _, [], _, _, h, _ => by simp at h
  | k :: g, b :: s, 0, l, h, h' => by
    simp at h h'
    subst h; subst h'
    simp [wt]; omega
  | k :: g, b :: s, v + 1, l, h, h' => by
    have := wt_set (g := g) (s := s) (v := v) (l := l) (by simpa using h) (by simpa using h')
    simp only [List.set_cons_succ, wt]
    omega
theorem wt_le : ∀ (g : List (List Int)) (s : List Bool), wt g s ≤ g.length + (g.map List.length).sum
  | [], _ => by simp [wt]
  | _ :: _, [] => by simp [wt]
  | k :: g, b :: s => by
    have := wt_le g s
    simp only [wt, List.length_cons, List.map_cons, List.sum_cons]
    split <;> omega

/-- The state of the search: what is seen is reached; what is seen has its Next seen, or to do. -/
structure Work (g : List (List Int)) (a : Int) (s : List Bool) (td : List Int) : Prop where
  len : s.length = g.length
  sound : ∀ v : Nat, s[v]? = some true → Reach g a v
  todo : ∀ x ∈ td, 0 ≤ x ∧ x < g.length ∧ (x ≠ a → Reach g a x.toNat)
  closed : ∀ (u : Nat) l, s[u]? = some true → g[u]? = some l → ∀ x ∈ l, x = a ∨ s[x.toNat]? = some true ∨ x ∈ td
  zero : a = 0 ∨ s[0]? = some true ∨ (0 : Int) ∈ td
theorem Work.start {g : List (List Int)} (hg : Fits g) (a : Int) : Work g a (List.replicate g.length false) [0] where
  len := by simp
  sound := fun v h => absurd h replicate_get
  todo := fun x hx => by
    simp at hx
    subst hx
    exact ⟨Int.le_refl _, by have := hg.pos; omega, fun h => Reach.zero (fun e => h e.symm) hg.pos⟩
  closed := fun u l h => absurd h replicate_get
  zero := .inr (.inr (by simp))
theorem Work.skip {g : List (List Int)} {a x : Int} {s : List Bool} {td : List Int} (h : Work g a s (td ++ [x])) (hx : x = a ∨ s[x.toNat]? = some true) : Work g a s td where
  len := h.len
  sound := h.sound
  todo := fun y hy => h.todo y (by simp [hy])
  closed := fun u l hu hl y hy => by
    rcases h.closed u l hu hl y hy with h1 | h1 | h1
    · exact .inl h1
    · exact .inr (.inl h1)
    · rcases List.mem_append.1 h1 with h2 | h2
      · exact .inr (.inr h2)
      · simp at h2; subst h2
        exact hx.imp_right .inl
  zero := by
    rcases h.zero with h1 | h1 | h1
    · exact .inl h1
    · exact .inr (.inl h1)
    · rcases List.mem_append.1 h1 with h2 | h2
      · exact .inr (.inr h2)
      · simp at h2; subst h2
        rcases hx with hx | hx
        · exact .inl hx.symm
        · exact .inr (.inl (by simpa using hx))
theorem Work.mark {g : List (List Int)} (hg : Fits g) {a x : Int} {s : List Bool} {td l : List Int} (h : Work g a s (td ++ [x])) (hx : x ≠ a) (hl : g[x.toNat]? = some l) : Work g a (s.set x.toNat true) (td ++ l) where
  len := by simpa using h.len
  sound := fun v hv => by
    rw [List.getElem?_set] at hv
    split at hv
    · rename_i e; subst e; exact (h.todo x (by simp)).2.2 hx
    · exact h.sound v hv
  todo := fun y hy => by
    rcases List.mem_append.1 hy with hy | hy
    · exact h.todo y (by simp [hy])
    · have h1 := hg.inn _ _ hl y hy
      refine ⟨h1.1, h1.2, fun hya => ?_⟩
      exact Reach.step ((h.todo x (by simp)).2.2 hx) hl (v := y.toNat) (by rw [Int.toNat_of_nonneg h1.1]; exact hy) (by rw [Int.toNat_of_nonneg h1.1]; exact hya) (by omega)
  closed := fun u k hu hk y hy => by
    have hm := (more_set s x.toNat).more
    rw [List.getElem?_set] at hu
    split at hu
    · rename_i e
      subst e
      rw [hl] at hk
      cases hk
      exact .inr (.inr (by simp [hy]))
    · rcases h.closed u k hu hk y hy with h1 | h1 | h1
      · exact .inl h1
      · exact .inr (.inl (hm _ h1))
      · rcases List.mem_append.1 h1 with h2 | h2
        · exact .inr (.inr (by simp [h2]))
        · simp at h2; subst h2
          refine .inr (.inl ?_)
          have hlt := h.todo y (by simp)
          rw [List.getElem?_set, if_pos rfl, if_pos (by have := h.len; omega)]
  zero := by
    have hm := (more_set s x.toNat).more
    rcases h.zero with h1 | h1 | h1
    · exact .inl h1
    · exact .inr (.inl (hm _ h1))
    · rcases List.mem_append.1 h1 with h2 | h2
      · exact .inr (.inr (by simp [h2]))
      · simp at h2; subst h2
        refine .inr (.inl ?_)
        have hlt := hg.pos
        have hsl := h.len
        simp only [Int.toNat_zero, List.getElem?_set, if_true]
        rw [if_pos (by omega)]
theorem Work.done {g : List (List Int)} {a : Int} {s : List Bool} (h : Work g a s []) : s = reachRow g a := by
  refine eq_reachRow h.len (fun v => ⟨h.sound v, fun hv => ?_⟩)
  refine reach_closed (S := fun v => s[v]? = some true) (fun ha _ => ?_) (fun u l hu _ hl x hx hxa _ => ?_) hv
  · rcases h.zero with h1 | h1 | h1
    · exact absurd h1 ha
    · exact h1
    · simp at h1
  · rcases h.closed u l hu hl x hx with h1 | h1 | h1
    · exact absurd h1 hxa
    · simpa using h1
    · simp at h1

theorem own_pop {w : World} {base g cap m : Nat} {e : TypeId} {xs : List Value} {v : Value} (h : w.ownsRow base e 1 (.slice (some ⟨g, 0, none⟩) (m + 1) cap) (m + 1) (xs ++ [v])) : w.ownsRow base e 1 (.slice (some ⟨g, 0, none⟩) m cap) m xs := by
  have hl : xs.length = m := by have := h.1; simp at this; omega
  rcases h.2 with ⟨h1, h2⟩ | ⟨g', cap', cur, hv, hb, hg, hn, hm, hc, ht⟩
  · omega
  · simp only [Value.slice.injEq, Option.some.injEq, Addr.mk.injEq, and_true, true_and] at hv
    obtain ⟨rfl, rfl⟩ := hv
    refine ⟨by omega, .inr ⟨g, cap, cur, rfl, hb, hg, by omega, hm, hc, ?_⟩⟩
    have := congrArg (List.take m) ht
    rw [List.take_take, List.take_left' hl] at this
    rw [Nat.mul_one]
    rwa [Nat.min_eq_left (by omega)] at this
theorem own_one (w : World) (base : Nat) (e : TypeId) (v : Value) (hb : base ≤ w.heap.size) : (w.alloc (.cells #[v] e)).ownsRow base e 1 (.slice (some ⟨w.heap.size, 0, none⟩) 1 1) 1 [v] :=
  ⟨rfl, .inr ⟨w.heap.size, 1, #[v], rfl, hb, heap_alloc_new w _, Nat.le_refl _, by decide, rfl, rfl⟩⟩
theorem own_some {w : World} {base m cap : Nat} {e : TypeId} {a : Option Addr} {xs : List Value} (h : w.ownsRow base e 1 (.slice a (m + 1) cap) (m + 1) xs) : ∃ g, a = some ⟨g, 0, none⟩ := by
  rcases h.2 with ⟨h1, h2⟩ | ⟨g', cap', cur, hv, _⟩
  · omega
  · simp only [Value.slice.injEq] at hv
    exact ⟨g', hv.1⟩

/-- What holds in each round. -/
structure RW (g : List (List Int)) (a : Int) (C : Array Value) (sb : Nat) (w : World) (F : Nat) (ta : Option Addr) (L tc : Nat) (s : List Bool) (td : List Int) (wr : World) : Prop where
  work : Work g a s td
  fuel : wt g s + td.length ≤ F
  small : wt g s + td.length ≤ 2097152
  list : wr.ownsRow w.heap.size 3 1 (.slice ta L tc) L (td.map (Value.int .i64))
  seen : wr.ownsRow w.heap.size 4 1 (.slice (some ⟨sb, 0, none⟩) g.length g.length) g.length (s.map Value.bool)
  cblk : wr.heap[w.heap.size]? = some (.cells C 52 (0, 0))
  below : Below w.heap.size w wr
  lt : w.heap.size < wr.heap.size

end Go.Proofs.YtonlidgmfmgcmaaGreat

/-
  The program's table of what dominates what.
-/
namespace Go.Proofs.YtonlidgmfmgcmaaGreat
open Go.RowKit

theorem domRow_unreached {g : List (List Int)} {k : Nat} (h : reachB g (-1) k = false) : domRow g k = List.replicate g.length false := by
  apply List.ext_getElem?
  intro v
  by_cases hv : v < g.length
  · rw [domRow_get hv, List.getElem?_replicate, if_pos hv, domB, h, Bool.false_and]
  · rw [List.getElem?_eq_none (by rw [domRow_length]; omega), List.getElem?_eq_none (by simp; omega)]

end Go.Proofs.YtonlidgmfmgcmaaGreat

/-
  Does a block dominate another one: the reference's answer and the program's.
-/
namespace Go.Proofs.YtonlidgmfmgcmaaGreat
open Go.RowKit

/-- Is b a block of a code that is a graph? -/
noncomputable def inP (g : List (List Int)) (b : Int) : Bool := fits g && okN g.length b
noncomputable def domP (g : List (List Int)) (a b : Int) : Bool := inP g a && (inP g b && domB g a.toNat b.toNat)
theorem inP_true {g : List (List Int)} {b : Int} : inP g b = true ↔ Fits g ∧ 0 ≤ b ∧ b < g.length := by
  rw [inP, Bool.and_eq_true, fits_iff, okN_iff]
theorem BMat.cell {w : World} {a : Option Addr} {g : List (List Int)} (h : BMat w a g.length (domMat g)) {x y : Nat} (hx : x < g.length) (hy : y < g.length) :
    ∃ b off rb roff rc, a = some ⟨b, off, none⟩ ∧ w.cell? ⟨b, off + x, none⟩ = some (.slice (some ⟨rb, roff, none⟩) g.length rc) ∧ w.cell? ⟨rb, roff + y, none⟩ = some (.bool (domB g x y)) := by
  obtain ⟨b, off, ra, rc, bs, rfl, hm, hc, hr⟩ := BMat.place h hx
  rw [domMat_get hx] at hm
  cases hm
  rw [domRow_length] at hc hr
  obtain ⟨rb, roff, v, rfl, hv, hc2⟩ := hr.place hy
  rw [domRow_get hy] at hv
  cases hv
  exact ⟨b, off, rb, roff, rc, rfl, hc, hc2⟩

/-- A code's value, and what lies behind it. -/
abbrev codeV (p r : Int) (ba : Option Addr) (n bc : Nat) : Value := .agg #[.int .i64 p, .int .i64 r, .slice ba n bc]

theorem below_box (w : World) (v0 v1 v2 : Value) : Below w.heap.size w (w.alloc (.cells #[v0, v1, v2] 52)) := (Below.refl _ _).alloc (Nat.le_refl _) _

/-! ### the program -/
/-- Is b a block that is reached? -/
noncomputable def hasP (g : List (List Int)) (b : Int) : Bool := okN g.length b && reachB g (-1) b.toNat
theorem domB_has {g : List (List Int)} {a b : Nat} (h : domB g a b = true) : reachB g (-1) a = true ∧ reachB g (-1) b = true := by
  simp only [domB, Bool.and_eq_true] at h
  exact ⟨h.1, h.2.1⟩
theorem domP_has {g : List (List Int)} {a b : Int} (hf : Fits g) : domP g a b = (hasP g a && (hasP g b && domB g a.toNat b.toNat)) := by
  have hft := fits_iff.2 hf
  simp only [domP, inP, hasP, hft, Bool.true_and]
  cases hd : domB g a.toNat b.toNat with
  | false => simp
  | true =>
    have := domB_has hd
    rw [this.1, this.2]
    simp

end Go.Proofs.YtonlidgmfmgcmaaGreat
