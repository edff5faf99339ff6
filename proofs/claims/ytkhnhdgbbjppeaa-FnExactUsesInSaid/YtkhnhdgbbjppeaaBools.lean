
/-
  Rows of truth values, and slices of such rows: how they read, how they are owned and filled.
-/
import Derived.Test.YtkhnhdgbbjppeaaVisit
namespace Go.Proofs.Ytkhnhdgbbjppeaa
open Go.RowKit

theorem info_bool : (Try.prog.info? 4).map (fun i => (i.zero, i.size, i.bytes)) = some (some (.bool false), 1, 1) := by kernel_rfl
theorem und_bools : Try.prog.underlying 124 = some (.slice 4) := by kernel_rfl
theorem info_bools : (Try.prog.info? 124).map (fun i => (i.zero, i.size, i.bytes)) = some (some (.slice none 0 0), 1, 24) := by kernel_rfl
theorem und_bmat : Try.prog.underlying 103 = some (.slice 124) := by kernel_rfl

/-- A slice value's elements read as a list of truth values. -/
structure BoolsRd (w : World) (a : Option Addr) (len : Nat) (bs : List Bool) : Prop where
  length : bs.length = len
  row : RowAt w a (bs.map Value.bool)
theorem BoolsRd.later {w w' : World} {a : Option Addr} {len : Nat} {bs : List Bool} (h : BoolsRd w a len bs) (hb : Below w.heap.size w w') : BoolsRd w' a len bs := ⟨h.length, h.row.later hb⟩
theorem BoolsRd.place {w : World} {a : Option Addr} {len : Nat} {bs : List Bool} (h : BoolsRd w a len bs) {i : Nat} (hi : i < len) :
    ∃ b off x, a = some ⟨b, off, none⟩ ∧ bs[i]? = some x ∧ w.cell? ⟨b, off + i, none⟩ = some (.bool x) := by
  have hl := h.length
  rcases h.row with h0 | ⟨b, off, rfl, hc⟩
  · have : bs = [] := by simpa using h0
    subst this; simp at hl; omega
  · have hx : bs[i]? = some (bs[i]'(by omega)) := List.getElem?_eq_getElem _
    exact ⟨b, off, _, rfl, hx, hc i _ (by rw [List.getElem?_map, hx]; rfl)⟩
theorem bools_of_own {w : World} {base n cap : Nat} {a : Option Addr} {bs : List Bool} (h : w.ownsRow base 4 1 (.slice a n cap) n (bs.map Value.bool)) : BoolsRd w a n bs :=
  ⟨by have := h.1; simpa using this, rowAt_of_own h⟩
/-- One element of a slice of rows of truth values. -/
def BRowR (w : World) (cs : List Value) (bs : List Bool) : Prop := ∃ a c, cs = [.slice a bs.length c] ∧ BoolsRd w a bs.length bs
theorem bRowR_lasts : Lasts BRowR := by
  rintro w w' cs bs hb ⟨a, c, rfl, h⟩
  exact ⟨a, c, rfl, h.later hb⟩
abbrev BMat (w : World) (a : Option Addr) (len : Nat) (M : List (List Bool)) : Prop := SliceRd 1 BRowR w a len M
theorem BMat.place {w : World} {a : Option Addr} {len : Nat} {M : List (List Bool)} (h : BMat w a len M) {i : Nat} (hi : i < len) :
    ∃ b off ra rc bs, a = some ⟨b, off, none⟩ ∧ M[i]? = some bs ∧ w.cell? ⟨b, off + i, none⟩ = some (.slice ra bs.length rc) ∧ BoolsRd w ra bs.length bs := by
  obtain ⟨b, off, cs, x, rfl, hx, _, hc, ra, rc, rfl, hr⟩ := SliceRd.place h (by decide) hi
  have h0 := hc 0 _ rfl
  rw [Nat.mul_one, Nat.add_zero] at h0
  exact ⟨b, off, ra, rc, x, rfl, hx, h0, hr⟩

/-- A slice of rows of truth values, all of it owned; the rows' cells are whole. -/
structure BMatOwn (w : World) (base : Nat) (a : Option Addr) (len cap : Nat) (M : List (List Bool)) : Prop where
  length : M.length = len
  own : ∃ vals : List Value, w.ownsRow base 124 1 (.slice a len cap) len vals ∧ ∀ (i : Nat) v bs, vals[i]? = some v → M[i]? = some bs → ∃ ra rc, v = .slice ra bs.length rc ∧ w.ownsRow base 4 1 v bs.length (bs.map Value.bool)
theorem flatten_ones {α : Type} : ∀ vs : List α, (vs.map (fun v => [v])).flatten = vs
  | [] => rfl
  | v :: vs => by rw [List.map_cons, List.flatten_cons, flatten_ones vs]; rfl
theorem BMatOwn.rd {w : World} {base len cap : Nat} {a : Option Addr} {M : List (List Bool)} (h : BMatOwn w base a len cap M) : BMat w a len M := by
  obtain ⟨hl, vals, h1, h2⟩ := h
  have hvl : vals.length = len := by have := h1.1; simpa using this
  refine ⟨hl, vals.map (fun v => [v]), ?_, by simp [hvl], by simp, fun i c x hc hx => ?_⟩
  · rw [flatten_ones]
    exact rowAt_of_own h1
  · rw [List.getElem?_map] at hc
    obtain ⟨v, hv, rfl⟩ := Option.map_eq_some_iff.1 hc
    obtain ⟨ra, rc, rfl, h3⟩ := h2 i v x hv hx
    exact ⟨ra, rc, rfl, bools_of_own h3⟩
theorem BMatOwn.below {w w' : World} {base len cap : Nat} {a : Option Addr} {M : List (List Bool)} (h : BMatOwn w base a len cap M) (hb : Below w.heap.size w w') : BMatOwn w' base a len cap M := by
  obtain ⟨hl, vals, h1, h2⟩ := h
  exact ⟨hl, vals, ownsRow_below h1 hb, fun i v bs hv hm => by obtain ⟨ra, rc, rfl, h3⟩ := h2 i v bs hv hm; exact ⟨ra, rc, rfl, ownsRow_below h3 hb⟩⟩
theorem BMatOwn.start {w : World} {base : Nat} (hb : base ≤ w.heap.size) : BMatOwn (w.alloc (.cells #[] 124)) base (some ⟨w.heap.size, 0, none⟩) 0 0 [] :=
  ⟨rfl, [], own_empty _ _ _ _ hb, fun i v bs hv => by simp at hv⟩
theorem BMatOwn.nil (w : World) (base : Nat) : BMatOwn w base none 0 0 [] := ⟨rfl, [], World.ownsRow_nil _ _ _ _, fun i v bs hv => by simp at hv⟩
/-- What an append of a row of the call's own gives. -/
theorem BMatOwn.snoc {w w' : World} {base len cap a2len c' : Nat} {a a' ra : Option Addr} {rc : Nat} {M : List (List Bool)} {bs : List Bool} (h : BMatOwn w base a len cap M) (hr : w.ownsRow base 4 1 (.slice ra bs.length rc) bs.length (bs.map Value.bool))
    (vals : List Value) (hv : w.ownsRow base 124 1 (.slice a len cap) len vals) (h2 : ∀ (i : Nat) v bs, vals[i]? = some v → M[i]? = some bs → ∃ ra rc, v = .slice ra bs.length rc ∧ w.ownsRow base 4 1 v bs.length (bs.map Value.bool))
    (hg : w.grownBy w' (Value.slice a len cap).ownBlock) (hn : w'.ownsRow base 124 1 (.slice a' a2len c') a2len (vals ++ [.slice ra bs.length rc])) (ha2 : a2len = len + 1) : BMatOwn w' base a' a2len c' (M ++ [bs]) := by
  have hvl : vals.length = len := by have := hv.1; simpa using this
  have hkeep : ∀ v (n : Nat) (xs : List Value), w.ownsRow base 4 1 v n xs → w'.ownsRow base 4 1 v n xs := fun v n xs hx =>
    own_turned (S := fun k => (Value.slice a len cap).ownBlock = some k) hx (turned_of_grown hg (fun k hk => hk)) (fun k hk => own_apart hx hv (by decide) hk)
  subst ha2
  refine ⟨by simp [h.length], _, hn, fun i v bs' hi hm => ?_⟩
  rw [List.getElem?_append] at hi hm
  rw [hvl] at hi
  rw [h.length] at hm
  split at hi
  · rename_i hlt
    rw [if_pos hlt] at hm
    obtain ⟨ra', rc', rfl, h3⟩ := h2 i v bs' hi hm
    exact ⟨ra', rc', rfl, hkeep _ _ _ h3⟩
  · rename_i hlt
    rw [if_neg hlt] at hm
    have : i - len = 0 := by have := (List.getElem?_eq_some_iff.1 hi).1; simp at this; omega
    rw [this] at hi hm
    simp at hi hm
    subst hi; subst hm
    exact ⟨ra, rc, rfl, hkeep _ _ _ hr⟩

/-- The next truth value is put into a row of zeros. -/
theorem set_next_bool {bs : List Bool} {k n : Nat} {x : Bool} (h : bs[k]? = some x) (hn : bs.length = n) :
    ((bs.take k).map Value.bool ++ List.replicate (n - k) (Value.bool false)).set k (.bool x) = (bs.take (k + 1)).map Value.bool ++ List.replicate (n - (k + 1)) (Value.bool false) := by
  have hk : k < bs.length := (List.getElem?_eq_some_iff.1 h).1
  rw [List.set_append_right _ _ (by simp; omega), take_succ_of h]
  have h1 : ((bs.take k).map Value.bool).length = k := by simp; omega
  rw [h1, Nat.sub_self, show n - k = (n - (k + 1)) + 1 by omega, List.replicate_succ]
  simp
theorem reach_zero {g : List (List Int)} {v : Nat} : ¬ Reach g 0 v := by
  intro h
  induction h with
  | zero h _ => exact h rfl
  | step _ _ _ _ _ ih => exact ih
theorem reachRow_length (g : List (List Int)) (a : Int) : (reachRow g a).length = g.length := by simp [reachRow]
theorem domRow_length (g : List (List Int)) (a : Nat) : (domRow g a).length = g.length := by simp [domRow]
theorem reachRow_get {g : List (List Int)} {a : Int} {v : Nat} (h : v < g.length) : (reachRow g a)[v]? = some (reachB g a v) := by simp [reachRow, h]
theorem domRow_get {g : List (List Int)} {a v : Nat} (h : v < g.length) : (domRow g a)[v]? = some (domB g a v) := by simp [domRow, h]
theorem domMat_get {g : List (List Int)} {a : Nat} (h : a < g.length) : (domMat g)[a]? = some (domRow g a) := by simp [domMat, h]
/-- A list of truth values that is true where a is reached. -/
theorem eq_reachRow {g : List (List Int)} {a : Int} {s : List Bool} (hl : s.length = g.length) (h : ∀ v : Nat, s[v]? = some true ↔ Reach g a v) : s = reachRow g a := by
  apply List.ext_getElem?
  intro v
  by_cases hv : v < g.length
  · rw [reachRow_get hv]
    have h1 := h v
    rw [List.getElem?_eq_getElem (by omega)] at h1 ⊢
    cases hb : s[v]'(by omega) with
    | true => rw [hb] at h1; rw [reachB_true.2 (h1.1 rfl)]
    | false => rw [hb] at h1; rw [reachB_false.2 (fun hr => by have := h1.2 hr; simp at this)]
  · rw [List.getElem?_eq_none (by omega), List.getElem?_eq_none (by rw [reachRow_length]; omega)]
theorem replicate_get {n v : Nat} : (List.replicate n false)[v]? ≠ some true := by
  rw [List.getElem?_replicate]
  split <;> simp
theorem visit_all {g : List (List Int)} (hg : Fits g) : (dfs g g.length 0 (List.replicate g.length false, [])).1 = reachRow g (-1) := by
  refine eq_reachRow (by rw [(dfs_more _ _ _ _).length]; simp) (fun v => ?_)
  rw [dfs_reach (a := -1) hg [] (List.replicate g.length false) (fun v => ⟨fun h => absurd h replicate_get, fun h => by omega⟩) (by simp) (by decide)]
  exact ⟨fun h => h.elim (fun h => by omega) id, .inr⟩
theorem visit_but {g : List (List Int)} (hg : Fits g) {a : Nat} (ha : a ≠ 0) (hl : a < g.length) : (dfs g g.length 0 ((List.replicate g.length false).set a true, [])).1.set a false = reachRow g a := by
  refine eq_reachRow (by rw [List.length_set, (dfs_more _ _ _ _).length]; simp) (fun v => ?_)
  have hr := dfs_reach (a := (a : Int)) hg [] ((List.replicate g.length false).set a true) (fun v => by
    rw [List.getElem?_set]
    split
    · rename_i e; subst e; simp [hl]
    · rename_i e
      exact ⟨fun h => absurd h replicate_get, fun h => by omega⟩) (by simp) (by omega) v
  rw [List.getElem?_set]
  split
  · rename_i e
    subst e
    have : ¬ Reach g (a : Int) a := fun h => h.ne rfl
    split <;> simp [this]
  · rename_i e
    rw [hr]
    exact ⟨fun h => h.elim (fun h => by omega) id, .inr⟩
theorem visit_zero {g : List (List Int)} : ((List.replicate g.length false).set 0 true).set 0 false = reachRow g 0 := by
  refine eq_reachRow (by simp) (fun v => ?_)
  rw [List.set_set, List.getElem?_set]
  have : ¬ Reach g 0 v := reach_zero
  split
  · split <;> simp [this]
  · simp only [this, iff_false]; exact replicate_get

end Go.Proofs.Ytkhnhdgbbjppeaa
