
/-
  A slice that a call has made, of rows onto which it appends one by one: what lies in memory.
-/
import Derived.Test.YtkhnhdgbbjppeaaMat
namespace Go.Proofs.Ytkhnhdgbbjppeaa
open Go.RowKit

/-- A row: where it lies, its capacity, how many elements, its cells. -/
structure Rw where
  a : Option Addr
  cap : Nat
  n : Nat
  vs : List Value
def Rw.val (r : Rw) : Value := .slice r.a r.n r.cap
def nilRw : Rw := ⟨none, 0, 0, []⟩
/-- The slice of the rows in block g, and the rows, no two in one place. -/
structure Nest (eo ei : TypeId) (s lo g len : Nat) (rows : List Rw) (wr : World) : Prop where
  own : wr.ownsRow lo eo 1 (.slice (some ⟨g, 0, none⟩) len len) len (rows.map Rw.val)
  row : ∀ r ∈ rows, wr.ownsRow lo ei s r.val r.n r.vs
  apart : (rows.filterMap (·.val.ownBlock)).Nodup
theorem Nest.len {eo ei : TypeId} {s lo g len : Nat} {rows : List Rw} {wr : World} (h : Nest eo ei s lo g len rows wr) : rows.length = len := by have := h.own.1; simpa using this
theorem Nest.start {eo ei : TypeId} {s lo g len : Nat} {wr : World} (h : wr.ownsRow lo eo 1 (.slice (some ⟨g, 0, none⟩) len len) len (List.replicate len (.slice none 0 0))) : Nest eo ei s lo g len (List.replicate len nilRw) wr := by
  refine ⟨by simpa [nilRw, Rw.val] using h, fun r hr => by rw [(List.mem_replicate.1 hr).2]; exact World.ownsRow_nil _ _ _ _, ?_⟩
  have : (List.replicate len nilRw).filterMap (·.val.ownBlock) = [] := by
    rw [List.filterMap_eq_nil_iff]
    intro r hr
    rw [(List.mem_replicate.1 hr).2]; rfl
  rw [this]; exact List.nodup_nil
theorem Nest.below {eo ei : TypeId} {s lo g len : Nat} {rows : List Rw} {wr w' : World} (h : Nest eo ei s lo g len rows wr) (hb : Below wr.heap.size wr w') : Nest eo ei s lo g len rows w' :=
  ⟨ownsRow_below h.own hb, fun r hr => ownsRow_below (h.row r hr) hb, h.apart⟩
theorem Nest.get {eo ei : TypeId} {s lo g len : Nat} {rows : List Rw} {wr : World} (h : Nest eo ei s lo g len rows wr) {i : Nat} (hi : i < len) :
    ∃ r, rows[i]? = some r ∧ wr.cell? ⟨g, i, none⟩ = some r.val ∧ wr.frozen? ⟨g, i, none⟩ = false ∧ wr.ownsRow lo ei s r.val r.n r.vs := by
  have hl := h.len
  have hx : rows[i]? = some (rows[i]'(by omega)) := List.getElem?_eq_getElem _
  refine ⟨_, hx, ?_, h.own.frozenAt i, h.row _ (List.getElem_mem _)⟩
  rw [h.own.cellAt i (by omega), List.getElem?_map, hx]; rfl

theorem filter_mem {α : Type} {f : α → Option Nat} {xs : List α} {k : Nat} (h : k ∈ xs.filterMap f) : ∃ x ∈ xs, f x = some k := by
  obtain ⟨x, hx, he⟩ := List.mem_filterMap.1 h
  exact ⟨x, hx, he⟩
theorem nodup_ne {α : Type} {f : α → Option Nat} : ∀ {xs : List α}, (xs.filterMap f).Nodup → ∀ {i j : Nat} {x y : α}, xs[i]? = some x → xs[j]? = some y → i ≠ j → ∀ k, f x = some k → ¬ f y = some k
  | [], _, _, _, _, _, h, _, _ => by simp at h
  | a :: xs, hn, i, j, x, y, hx, hy, hij => by
    intro k hk hk'
    have key : ∀ {z : α} {q : Nat}, xs[q]? = some z → f z = some k → f a = some k → False := by
      intro z q hz hfz hfa
      rw [List.filterMap_cons, hfa] at hn
      exact (List.nodup_cons.1 hn).1 (List.mem_filterMap.2 ⟨z, List.mem_of_getElem? hz, hfz⟩)
    cases i with
    | zero =>
      cases j with
      | zero => exact hij rfl
      | succ j =>
        simp at hx hy
        subst hx
        exact key hy hk' hk
    | succ i =>
      cases j with
      | zero =>
        simp at hx hy
        subst hy
        exact key hx hk hk'
      | succ j =>
        simp at hx hy
        have hn2 : (xs.filterMap f).Nodup := by
          rw [List.filterMap_cons] at hn
          cases hfa : f a with
          | none => rw [hfa] at hn; exact hn
          | some q => rw [hfa] at hn; exact (List.nodup_cons.1 hn).2
        exact nodup_ne hn2 hx hy (by omega) k hk hk'
theorem nodup_put {α : Type} {f : α → Option Nat} {r' : α} : ∀ {xs : List α}, (xs.filterMap f).Nodup → ∀ {i : Nat} {r : α}, xs[i]? = some r → (∀ k, f r' = some k → f r = some k ∨ ∀ x ∈ xs, ¬ f x = some k) → ((xs.set i r').filterMap f).Nodup
  | [], _, _, _, h, _ => by simp at h
  | a :: xs, hn, i, r, hr, hf => by
    have hn2 : (xs.filterMap f).Nodup := by
      rw [List.filterMap_cons] at hn
      cases hfa : f a with
      | none => rw [hfa] at hn; exact hn
      | some q => rw [hfa] at hn; exact (List.nodup_cons.1 hn).2
    cases i with
    | zero =>
      simp at hr
      subst hr
      rw [List.set_cons_zero, List.filterMap_cons]
      cases hfr : f r' with
      | none => exact hn2
      | some k =>
        refine List.nodup_cons.2 ⟨fun hk => ?_, hn2⟩
        obtain ⟨z, hz, hfz⟩ := filter_mem hk
        rcases hf k hfr with h1 | h1
        · rw [List.filterMap_cons, h1] at hn
          exact (List.nodup_cons.1 hn).1 hk
        · exact h1 z (by simp [hz]) hfz
    | succ i =>
      simp at hr
      have ih := nodup_put (r' := r') hn2 hr (fun k hk => (hf k hk).imp_right fun h x hx => h x (by simp [hx]))
      rw [List.set_cons_succ, List.filterMap_cons]
      cases hfa : f a with
      | none => exact ih
      | some k =>
        refine List.nodup_cons.2 ⟨fun hk => ?_, ih⟩
        obtain ⟨z, hz, hfz⟩ := filter_mem hk
        have hno : ∀ y ∈ xs, ¬ f y = some k := fun y hy hfy => by
          rw [List.filterMap_cons, hfa] at hn
          exact (List.nodup_cons.1 hn).1 (List.mem_filterMap.2 ⟨y, hy, hfy⟩)
        rcases List.mem_or_eq_of_mem_set hz with h1 | h1
        · exact hno z h1 hfz
        · subst h1
          rcases hf k hfz with h2 | h2
          · exact hno r (List.mem_of_getElem? hr) h2
          · exact h2 a (by simp) hfa

/-- A row has grown, and its new slice is put in its place. -/
theorem Nest.put {eo ei : TypeId} {s lo g len : Nat} {rows : List Rw} {wr wx w1 : World} (h : Nest eo ei s lo g len rows wr) (hne : eo ≠ ei) {i : Nat} {r r' : Rw} (hr : rows[i]? = some r) (hb : Below wr.heap.size wr wx) (hg : wx.grownBy w1 r.val.ownBlock)
    (hown : w1.ownsRow lo ei s r'.val r'.n r'.vs) (hlies : r'.val.ownBlock = r.val.ownBlock ∨ ∃ k, r'.val.ownBlock = some k ∧ wr.heap.size ≤ k) : Nest eo ei s lo g len (rows.set i r') (w1.setCell ⟨g, i, none⟩ r'.val) := by
  have hx := h.below hb
  have ht : Turned (fun k => r.val.ownBlock = some k) wx w1 := turned_of_grown hg (fun _ h => h)
  have hro := hx.row r (List.mem_of_getElem? hr)
  have ho1 := own_turned hx.own ht (fun k hk hs => own_ne hro hx.own hne.symm k hs hk)
  have hst := ho1.stored i r'.val
  have ht2 : Turned (fun k => k = g) w1 (w1.setCell ⟨g, i, none⟩ r'.val) := turned_store w1 g i r'.val
  refine ⟨by rw [List.map_set]; exact hst.1, fun x hxm => ?_, nodup_put h.apart hr (fun k hk => ?_)⟩
  · obtain ⟨j, hj⟩ := List.getElem?_of_mem hxm
    rw [List.getElem?_set] at hj
    split at hj
    · split at hj
      · cases hj
        exact own_turned hown ht2 (fun k hk hkg => own_ne hown ho1 hne.symm k hk (by rw [hkg]; rfl))
      · cases hj
    · rename_i hij
      have h1 := own_turned (hx.row x (List.mem_of_getElem? hj)) ht (fun k hk hs => nodup_ne h.apart hr hj hij k hs hk)
      exact own_turned h1 ht2 (fun k hk hkg => own_ne h1 ho1 hne.symm k hk (by rw [hkg]; rfl))
  · rcases hlies with h1 | ⟨q, h1, h2⟩
    · exact .inl (by rw [← h1]; exact hk)
    · refine .inr (fun x hxm hxk => ?_)
      have := ((h.row x hxm).lt k hxk).2
      rw [h1] at hk
      cases hk
      omega

/-- The slice of the rows stands while a row grows. -/
theorem Nest.grown {eo ei : TypeId} {s lo g len : Nat} {rows : List Rw} {wr wx w1 : World} (h : Nest eo ei s lo g len rows wr) (hne : eo ≠ ei) {i : Nat} {r : Rw} (hr : rows[i]? = some r) (hb : Below wr.heap.size wr wx) (hg : wx.grownBy w1 r.val.ownBlock) :
    w1.cell? ⟨g, i, none⟩ = some r.val ∧ w1.frozen? ⟨g, i, none⟩ = false := by
  have hx := h.below hb
  have hro := hx.row r (List.mem_of_getElem? hr)
  have ho1 := own_turned hx.own (turned_of_grown hg (S := fun k => r.val.ownBlock = some k) (fun _ h => h)) (fun k hk hs => own_ne hro hx.own hne.symm k hs hk)
  have hl := h.len
  have hi := (List.getElem?_eq_some_iff.1 hr).1
  exact ⟨by rw [ho1.cellAt i (by omega), List.getElem?_map, hr]; rfl, ho1.frozenAt i⟩
/-- A block of another type stands while a row grows. -/
theorem kept_of_grown {wr wx w1 : World} {lo s n : Nat} {ei : TypeId} {v : Value} {vs : List Value} (hro : wr.ownsRow lo ei s v n vs) (hb : Below wr.heap.size wr wx) (hg : wx.grownBy w1 v.ownBlock) {cb : Nat} {C : Array Value} {t : TypeId} (hcb : wr.heap[cb]? = some (.cells C t (0, 0))) (ht : t ≠ ei) : w1.heap[cb]? = some (.cells C t (0, 0)) := by
  have hl : cb < wr.heap.size := (Array.getElem?_eq_some_iff.1 hcb).1
  rw [hg.block cb (Nat.lt_of_lt_of_le hl hb.size) (fun e => ?_), hb.block cb hl]
  · exact hcb
  · rcases hro.2 with ⟨hv, _⟩ | ⟨g, cap, cur, hv, _, hgg, _⟩
    · rw [hv] at e; cases e
    · rw [hv] at e
      simp only [Value.ownBlock, Option.some.injEq] at e
      subst e
      rw [hcb] at hgg
      simp only [Option.some.injEq, Obj.cells.injEq] at hgg
      exact ht hgg.2.1

/-- What two cells of a new block hold. -/
theorem rowAt_two (w : World) (x y : Value) (t : TypeId) : RowAt (w.alloc (.cells #[x, y] t)) (some ⟨w.heap.size, 0, none⟩) [x, y] :=
  .inr ⟨_, _, rfl, fun i v hv => by
    have hrow := heap_alloc_new w (.cells #[x, y] t)
    have h2 := cell_of_row _ _ (0 + i) _ _ _ hrow
    rw [h2, Nat.zero_add]
    simpa using hv⟩

end Go.Proofs.Ytkhnhdgbbjppeaa
