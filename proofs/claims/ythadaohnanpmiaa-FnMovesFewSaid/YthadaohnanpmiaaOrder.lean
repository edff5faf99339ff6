/-
  OrderMoves in the program: the walk.
-/
import Derived.Test.YthadaohnanpmiaaOrdMem
import Derived.Deep.LoopGhost
namespace Go.Proofs.Ythadaohnanpmiaa
open Go.RowKit

def blocks (rs : List Hd) : List Nat := rs.filterMap (·.val.ownBlock)
theorem blocks_append (a b : List Hd) : blocks (a ++ b) = blocks a ++ blocks b := List.filterMap_append

/-- What lies in memory while moves are put in order: what is left, what is out; no two of their rows in one place. -/
structure Ord (w : World) (lo : Nat) (al : Option Addr) (nl cl : Nat) (left : List Hd) (ao : Option Addr) (no co : Nat) (out : List Hd) : Prop where
  L : MatMine w lo al nl cl left
  O : MatMine w lo ao no co out
  outer : ∀ k, (Value.slice al nl cl).ownBlock = some k → ¬ (Value.slice ao no co).ownBlock = some k
  apart : (blocks (left ++ out)).Nodup

theorem Ord.below {w w' : World} {lo : Nat} {al ao : Option Addr} {nl cl no co : Nat} {left out : List Hd} (h : Ord w lo al nl cl left ao no co out) (hb : Below w.heap.size w w') : Ord w' lo al nl cl left ao no co out :=
  ⟨h.L.far (S := fun k => w.heap.size ≤ k) (turned_of_below hb (fun _ hk _ => hk)) (fun _ hk => .inr hk), h.O.far (S := fun k => w.heap.size ≤ k) (turned_of_below hb (fun _ hk _ => hk)) (fun _ hk => .inr hk), h.outer, h.apart⟩
theorem mine_keep {w w' : World} {lo : Nat} {a : Option Addr} {n cap : Nat} {rows : List Hd} (h : MatMine w lo a n cap rows) {row : Option Nat} (hg : w.grownBy w' row) (h1 : ∀ k, row = some k → ¬ (Value.slice a n cap).ownBlock = some k)
    (h2 : ∀ r ∈ rows, ∀ k, row = some k → ¬ r.val.ownBlock = some k) : MatMine w' lo a n cap rows :=
  have ht := turned_of_grown hg (S := fun k => row = some k) (fun _ hk => hk)
  ⟨own_turned h.own ht (fun k hk hs => h1 k hs hk), fun r hr => own_turned (h.rows r hr) ht (fun k hk hs => h2 r hr k hs hk)⟩
/-- One move more is out. -/
theorem ord_push {w w' : World} {lo : Nat} {al ao ao' : Option Addr} {nl cl no co co' : Nat} {left out : List Hd} {r : Hd} (h : Ord w lo al nl cl left ao no co out) (hr : w.ownsRow lo 3 1 r.val r.xs.length (r.xs.map (Value.int .i64)))
    (hown : w'.ownsRow lo 22 1 (.slice ao' (no + 1) co') (no + 1) (out.map Hd.val ++ [r.val])) (hg : w.grownBy w' (Value.slice ao no co).ownBlock)
    (hlies : (Value.slice ao' (no + 1) co').ownBlock = (Value.slice ao no co).ownBlock ∨ (Value.slice ao' (no + 1) co').ownBlock = some w.heap.size) :
    MatMine w' lo al nl cl left ∧ MatMine w' lo ao' (no + 1) co' (out ++ [r]) ∧ ∀ k, (Value.slice al nl cl).ownBlock = some k → ¬ (Value.slice ao' (no + 1) co').ownBlock = some k := by
  refine ⟨mine_keep h.L hg (fun k hk hk' => h.outer k hk' hk) (fun x hx k hk hk' => own_ne (h.L.rows x hx) h.O.own (by decide) k hk' hk), mine_push h.O hr hown hg, ?_⟩
  intro k hk hk'
  rcases hlies with hl | hl
  · rw [hl] at hk'; exact h.outer k hk hk'
  · rw [hl] at hk'
    cases hk'
    have := (h.L.own.lt _ hk).2
    omega
theorem nodup_move {left out : List Hd} {k : Nat} {r : Hd} (h : (blocks (left ++ out)).Nodup) (hr : left[k]? = some r) : (blocks (left.eraseIdx k ++ (out ++ [r]))).Nodup := by
  obtain ⟨hk, rfl⟩ := List.getElem?_eq_some_iff.1 hr
  have hp : (left.eraseIdx k ++ (out ++ [left[k]])).Perm (left ++ out) := by
    have h1 : left.Perm (left[k] :: left.eraseIdx k) := by
      rw [List.eraseIdx_eq_take_drop_succ]
      have h2 : left = left.take k ++ left[k] :: left.drop (k + 1) := by rw [← List.drop_eq_getElem_cons hk, List.take_append_drop]
      have h3 : (left.take k ++ left[k] :: left.drop (k + 1)).Perm (left[k] :: (left.take k ++ left.drop (k + 1))) := List.perm_middle
      rw [← h2] at h3
      exact h3
    have h4 : (left.eraseIdx k ++ (out ++ [left[k]])).Perm ((left.eraseIdx k ++ [left[k]]) ++ out) := by
      rw [List.append_assoc]
      exact List.Perm.append_left _ List.perm_append_comm
    refine h4.trans (List.Perm.append_right out ?_)
    exact (List.perm_append_singleton _ _).trans h1.symm
  exact ((hp.filterMap _).nodup_iff).2 h
theorem nodup_fresh {w : World} {lo : Nat} {al ao : Option Addr} {nl cl no co : Nat} {left out : List Hd} {r : Hd} (h : Ord w lo al nl cl left ao no co out) (hr : ∀ k, r.val.ownBlock = some k → w.heap.size ≤ k) : (blocks (left ++ (out ++ [r]))).Nodup := by
  rw [← List.append_assoc, blocks_append, List.nodup_append]
  refine ⟨h.apart, ?_, ?_⟩
  · unfold blocks
    cases hb : r.val.ownBlock <;> simp [hb]
  · intro x hx y hy
    obtain ⟨z, hz, hzx⟩ := List.mem_filterMap.1 hx
    obtain ⟨z', hz', hzy⟩ := List.mem_filterMap.1 hy
    simp at hz'
    subst hz'
    have h1 : x < w.heap.size := by
      rcases List.mem_append.1 hz with hz | hz
      · exact ((h.L.rows z hz).lt x hzx).2
      · exact ((h.O.rows z hz).lt x hzx).2
    have h2 := hr y hzy
    omega

theorem rowsAre_snoc {rows : List Hd} {ps : List (Int × Int)} {r : Hd} {m : Int × Int} (h : RowsAre rows ps) (hr : r.xs = enc m) : RowsAre (rows ++ [r]) (ps ++ [m]) := by
  unfold RowsAre at *
  rw [List.map_append, List.map_append, h]
  simp [hr]
theorem rowsAre_erase {rows : List Hd} {ps : List (Int × Int)} (h : RowsAre rows ps) (k : Nat) : RowsAre (rows.eraseIdx k) (ps.eraseIdx k) := by
  unfold RowsAre at *
  have e1 : ∀ {α : Type} (f : α → List Int) (l : List α) (k : Nat), (l.eraseIdx k).map f = (l.map f).eraseIdx k := by
    intro α f l k
    rw [List.eraseIdx_eq_take_drop_succ, List.eraseIdx_eq_take_drop_succ, List.map_append, List.map_take, List.map_drop]
  rw [e1, e1, h]

/-- A move that is left is turned to another source. -/
theorem ord_turn {w w' : World} {lo : Nat} {al ao : Option Addr} {nl cl no co : Nat} {A B out : List Hd} {r : Hd} {ys : List Int} (h : Ord w lo al nl cl (A ++ r :: B) ao no co out) (hl : ys.length = r.xs.length)
    (hr : w'.ownsRow lo 3 1 r.val r.xs.length (ys.map (Value.int .i64))) (hg : w.grownBy w' r.val.ownBlock) : Ord w' lo al nl cl (A ++ ⟨r.a, r.cap, ys⟩ :: B) ao no co out := by
  have hv : Hd.val ⟨r.a, r.cap, ys⟩ = r.val := by simp [Hd.val, hl]
  have hvals : (A ++ ⟨r.a, r.cap, ys⟩ :: B).map Hd.val = (A ++ r :: B).map Hd.val := by simp [hv]
  have hblk : blocks ((A ++ ⟨r.a, r.cap, ys⟩ :: B) ++ out) = blocks ((A ++ r :: B) ++ out) := by
    unfold blocks
    simp only [List.filterMap_append, List.filterMap_cons, hv]
  have hap := h.apart
  have hne : ∀ x ∈ (A ++ B) ++ out, ∀ k, r.val.ownBlock = some k → ¬ x.val.ownBlock = some k := by
    intro x hx k hrk hk
    have hp : (blocks (r :: ((A ++ B) ++ out))).Nodup := by
      have h1 : ((A ++ r :: B) ++ out).Perm (r :: ((A ++ B) ++ out)) := by
        have h2 : (A ++ r :: B).Perm (r :: (A ++ B)) := List.perm_middle
        exact List.Perm.append_right out h2
      exact ((h1.filterMap _).nodup_iff).1 hap
    unfold blocks at hp
    rw [List.filterMap_cons, hrk] at hp
    simp only at hp
    rw [List.nodup_cons] at hp
    exact hp.1 (List.mem_filterMap.2 ⟨x, hx, hk⟩)
  have hrm : r ∈ A ++ r :: B := by simp
  have ht := turned_of_grown hg (S := fun k => r.val.ownBlock = some k) (fun _ hk => hk)
  have hmem : ∀ x ∈ A ++ (⟨r.a, r.cap, ys⟩ : Hd) :: B, x ∈ A ++ B ∨ x = ⟨r.a, r.cap, ys⟩ := by
    intro x hx
    simp only [List.mem_append, List.mem_cons] at hx ⊢
    rcases hx with hx | hx | hx
    · exact .inl (.inl hx)
    · exact .inr hx
    · exact .inl (.inr hx)
  have hin : ∀ x ∈ A ++ B, x ∈ A ++ r :: B := by
    intro x hx
    simp only [List.mem_append, List.mem_cons] at hx ⊢
    rcases hx with hx | hx
    · exact .inl hx
    · exact .inr (.inr hx)
  refine ⟨⟨by rw [hvals]; exact own_turned h.L.own ht (fun k hk hs => own_ne (h.L.rows r hrm) h.L.own (by decide) k hs hk), fun x hx => ?_⟩, mine_keep h.O hg (fun k hk hk' => own_ne (h.L.rows r hrm) h.O.own (by decide) k hk hk') (fun x hx k hk => hne x (by simp [hx]) k hk), h.outer, by rw [hblk]; exact hap⟩
  rcases hmem x hx with hx | rfl
  · exact own_turned (h.L.rows x (hin x hx)) ht (fun k hk hs => hne x (List.mem_append.2 (.inl hx)) k hs hk)
  · rw [hv]
    simp only [hl]
    exact hr

/-! ### the variable that the closures have captured -/
def Box (w : World) (bl : Nat) (v : Value) : Prop := w.heap[bl]? = some (.cells #[v] 31 (0, 0))
theorem Box.cell {w : World} {bl : Nat} {v : Value} (h : Box w bl v) : w.cell? ⟨bl, 0, none⟩ = some v := by rw [cell_of_row w bl 0 _ _ _ h]; rfl
theorem Box.free {w : World} {bl : Nat} {v : Value} (h : Box w bl v) : w.frozen? ⟨bl, 0, none⟩ = false := frozen_of_row w bl 0 _ _ h
theorem Box.lt {w : World} {bl : Nat} {v : Value} (h : Box w bl v) : bl < w.heap.size := (Array.getElem?_eq_some_iff.1 h).1
theorem Box.below {w w' : World} {bl : Nat} {v : Value} (h : Box w bl v) (hb : Below w.heap.size w w') : Box w' bl v := by rw [Box, hb.block bl h.lt]; exact h
theorem Box.ne {w : World} {bl : Nat} {v : Value} (h : Box w bl v) {lo : Nat} {e : TypeId} {s : Nat} {v' : Value} {n : Nat} {xs : List Value} (h' : w.ownsRow lo e s v' n xs) (hne : e ≠ 31) : ¬ v'.ownBlock = some bl := by
  intro hk
  rcases h'.2 with ⟨hv, _⟩ | ⟨g, c, cur, hv, _, hg, _⟩
  · rw [hv] at hk; cases hk
  · rw [hv] at hk
    simp only [Value.ownBlock, Option.some.injEq] at hk
    subst hk
    rw [Box, hg] at h
    simp only [Option.some.injEq, Obj.cells.injEq] at h
    exact hne h.2.1
theorem Box.kept {w w' : World} {bl : Nat} {v : Value} (h : Box w bl v) {row : Option Nat} (hg : w.grownBy w' row) (hne : ¬ row = some bl) : Box w' bl v := by
  rw [Box, hg.block bl h.lt (fun e => hne e.symm)]
  exact h
theorem Box.set {w : World} {bl : Nat} {v : Value} (h : Box w bl v) (v' : Value) : Box (w.setCell ⟨bl, 0, none⟩ v') bl v' ∧ w.grownBy (w.setCell ⟨bl, 0, none⟩ v') (some bl) := by
  refine ⟨by rw [Box, heap_setCell_same w bl 0 _ _ _ h]; rfl, ⟨rfl, rfl, rfl, by simp [World.setCell], fun k _ hne => heap_setCell_other w _ k _ (by rintro rfl; exact hne rfl)⟩⟩
theorem MatMine.boxed {w : World} {bl : Nat} {v : Value} (hb : Box w bl v) (v' : Value) {lo : Nat} {a : Option Addr} {n cap : Nat} {rows : List Hd} (h : MatMine w lo a n cap rows) : MatMine (w.setCell ⟨bl, 0, none⟩ v') lo a n cap rows :=
  mine_keep h (hb.set v').2 (fun k hk => by cases hk; exact hb.ne h.own (by decide)) (fun r hr k hk => by cases hk; exact hb.ne (h.rows r hr) (by decide))

/-- The call returned a new slice of slices and a word; nothing that was there has changed. -/
def RetMatOk (w : World) (xss : List (List Int)) (ok : Bool) (e : Ending) (w' : World) : Prop :=
  ∃ a n c rows, e = .returned (.tuple #[.slice a n c, .bool ok]) ∧ MatOwn w' w.heap.size w'.heap.size a n c rows ∧ rows.map Hd.xs = xss ∧ Below w.heap.size w w'
theorem own_of_mine {w : World} {lo : Nat} {a : Option Addr} {n cap : Nat} {rows : List Hd} (h : MatMine w lo a n cap rows) (hn : (blocks rows).Nodup) : MatOwn w lo w.heap.size a n cap rows :=
  ⟨h.own, fun k hk => (h.own.lt k hk).2, h.rows, fun r hr k hk => ((h.rows r hr).lt k hk).2, hn⟩

theorem ret_of_ord {w w' : World} {lo : Nat} {al ao : Option Addr} {cl no co F : Nat} {left out : List Hd} {ps qs R : List (Int × Int)} {spare : Int} (h : Ord w' lo al 0 cl left ao no co out) (hps : RowsAre left ps) (hqs : RowsAre out qs)
    (hend : ordEnd spare F ps qs = R) (hlo : w.heap.size ≤ lo) (hb : Below w.heap.size w w') : RetMatOk w (R.map enc) true (.returned (.tuple #[.slice ao no co, .bool true])) w' := by
  have hl : left = [] := by
    have := h.L.own.1
    exact List.eq_nil_of_length_eq_zero (by simpa using this)
  subst hl
  have hp : ps = [] := List.eq_nil_of_length_eq_zero (by rw [← hps.length]; rfl)
  subst hp
  rw [ordEnd_nil] at hend
  subst hend
  have hm : MatMine w' w.heap.size ao no co out := ⟨own_lower h.O.own (fun k hk => Nat.le_trans hlo (h.O.own.lt k hk).1), fun r hr => own_lower (h.O.rows r hr) (fun k hk => Nat.le_trans hlo ((h.O.rows r hr).lt k hk).1)⟩
  have hn : (blocks out).Nodup := by have := h.apart; simpa using this
  exact ⟨ao, no, co, out, rfl, own_of_mine hm hn, hqs, hb⟩
/-- The first of the rows that no other reads. -/
theorem idxOf_free {left : List Hd} {ps : List (Int × Int)} (h : RowsAre left ps) (p : Hd → Bool) (hp : ∀ r ∈ left, ∀ m, r.xs = enc m → p r = isFree ps m) : idxOf p left = match freeAt ps with
    | some k => (k : Int)
    | none => -1 := by
  cases hf : freeAt ps with
  | some k =>
    obtain ⟨m, hm, hfm, hno⟩ := freeAt_some hf
    have hkl : k < left.length := by rw [h.length]; exact (List.getElem?_eq_some_iff.1 hm).1
    have hr := List.getElem?_eq_getElem hkl
    obtain ⟨m', hm', hx⟩ := h.get hr
    obtain rfl : m = m' := by rw [hm] at hm'; exact Option.some.inj hm'
    refine idxOf_some (r := left[k]) (fun j x hj hx' => ?_) hr (by rw [hp _ (List.getElem_mem _) m hx, hfm])
    obtain ⟨m2, hm2, hx2⟩ := h.get hx'
    rw [hp x (List.mem_of_getElem? hx') m2 hx2]
    exact hno j m2 hj hm2
  | none =>
    have hno := freeAt_none hf
    refine idxOf_none (fun r hr => ?_)
    obtain ⟨j, hj⟩ := List.getElem?_of_mem hr
    obtain ⟨m, hm, hx⟩ := h.get hj
    rw [hp r hr m hx]
    exact hno m (List.mem_of_getElem? hm)
theorem idxOf_free_some {left : List Hd} {ps : List (Int × Int)} (h : RowsAre left ps) (p : Hd → Bool) (hp : ∀ r ∈ left, ∀ m, r.xs = enc m → p r = isFree ps m) {k : Nat} (hf : freeAt ps = some k) : idxOf p left = k := by
  have := idxOf_free h p hp
  rwa [hf] at this
theorem idxOf_free_none {left : List Hd} {ps : List (Int × Int)} (h : RowsAre left ps) (p : Hd → Bool) (hp : ∀ r ∈ left, ∀ m, r.xs = enc m → p r = isFree ps m) (hf : freeAt ps = none) : idxOf p left = -1 := by
  have := idxOf_free h p hp
  rwa [hf] at this
/-- What the program asks of a move that is left. -/
def freeRow (ps : List (Int × Int)) (r : Hd) : Bool := isFree ps (r.xs.getD 0 0, r.xs.getD 1 0)
theorem freeRow_enc (ps : List (Int × Int)) (r : Hd) (m : Int × Int) (h : r.xs = enc m) : freeRow ps r = isFree ps m := by rw [freeRow, h]; rfl

/-- A move that nothing else reads goes out. -/
theorem ord_move {w wr w6 : World} {lo bl nl cl no co co' g k : Nat} {al ao ao' : Option Addr} {left out : List Hd} {r : Hd} {o : Obj} (hb : Below w.heap.size w wr) (hlo : w.heap.size ≤ lo) (hbs : w.heap.size ≤ bl)
    (hbx : Box wr bl (.slice al nl cl)) (h : Ord wr lo al nl cl left ao no co out) (hr : left[k]? = some r) (hal : al = some ⟨g, 0, none⟩)
    (hown : w6.ownsRow lo 22 1 (.slice ao' (no + 1) co') (no + 1) (out.map Hd.val ++ [r.val])) (hg : (wr.alloc o).grownBy w6 (Value.slice ao no co).ownBlock)
    (hlies : (Value.slice ao' (no + 1) co').ownBlock = (Value.slice ao no co).ownBlock ∨ (Value.slice ao' (no + 1) co').ownBlock = some (wr.alloc o).heap.size) :
    Box w6 bl (.slice al nl cl) ∧ w6.ownsRow lo 22 1 (.slice al nl cl) nl (left.map Hd.val) ∧
    (∀ w7 : World, w7.ownsRow lo 22 1 (.slice al (nl - 1) cl) (nl - 1) ((left.map Hd.val).eraseIdx k) → w6.grownBy w7 (some g) → Box w7 bl (.slice al nl cl) ∧
      Box (w7.setCell ⟨bl, 0, none⟩ (.slice al (nl - 1) cl)) bl (.slice al (nl - 1) cl) ∧ Ord (w7.setCell ⟨bl, 0, none⟩ (.slice al (nl - 1) cl)) lo al (nl - 1) cl (left.eraseIdx k) ao' (no + 1) co' (out ++ [r]) ∧ Below w.heap.size w (w7.setCell ⟨bl, 0, none⟩ (.slice al (nl - 1) cl))) := by
  have hba : Below wr.heap.size wr (wr.alloc o) := (Below.refl _ _).alloc (Nat.le_refl _) _
  have ha := h.below hba
  have hbxa := hbx.below hba
  have hrm := List.mem_of_getElem? hr
  obtain ⟨hL6, hO6, hout⟩ := ord_push ha (ha.L.rows r hrm) hown hg hlies
  have hbx6 : Box w6 bl (.slice al nl cl) := hbxa.kept hg (hbxa.ne ha.O.own (by decide))
  have hb6 : Below w.heap.size w w6 := (hb.alloc hb.size o).grown hg (Nat.le_trans hb.size hba.size) (fun k hk => Nat.le_trans hlo (ha.O.own.lt k hk).1)
  refine ⟨hbx6, hL6.own, fun w7 hown7 hg7 => ?_⟩
  subst hal
  have hbx7 : Box w7 bl (.slice (some ⟨g, 0, none⟩) nl cl) := hbx6.kept hg7 (fun e => hbx6.ne hL6.own (by decide) e)
  have hmap : (left.map Hd.val).eraseIdx k = (left.eraseIdx k).map Hd.val := by
    rw [List.eraseIdx_eq_take_drop_succ, List.eraseIdx_eq_take_drop_succ, List.map_append, List.map_take, List.map_drop]
  have ht := turned_of_grown hg7 (S := fun k => some g = some k) (fun _ hk => hk)
  have hL7 : MatMine w7 lo (some ⟨g, 0, none⟩) (nl - 1) cl (left.eraseIdx k) :=
    ⟨by rw [← hmap]; exact hown7, fun x hx => own_turned (hL6.rows x (List.mem_of_mem_eraseIdx hx)) ht (fun q hq hs => own_ne (hL6.rows x (List.mem_of_mem_eraseIdx hx)) hL6.own (by decide) q hq hs)⟩
  have hO7 : MatMine w7 lo ao' (no + 1) co' (out ++ [r]) := mine_keep hO6 hg7 (fun q hq hq' => hout q hq hq') (fun x hx q hq hq' => own_ne (hO6.rows x hx) hL6.own (by decide) q hq' hq)
  refine ⟨hbx7, (hbx7.set _).1, ⟨hL7.boxed hbx7 _, hO7.boxed hbx7 _, hout, nodup_move h.apart hr⟩, ?_⟩
  have hb7 := hb6.grown hg7 hb6.size (fun q hq => by cases hq; exact Nat.le_trans hlo (hL6.own.lt g rfl).1)
  exact hb7.grown (hbx7.set _).2 hb7.size (fun q hq => by cases hq; exact hbs)

theorem ordStep_some {spare : Int} {left out : List (Int × Int)} {k : Nat} {m : Int × Int} (h : freeAt left = some k) (hm : left[k]? = some m) : ordStep spare left out = (left.eraseIdx k, out ++ [m]) := by
  simp [ordStep, h, hm]
theorem ordStep_none {spare : Int} {left out : List (Int × Int)} {m : Int × Int} (h : freeAt left = none) (hm : left[0]? = some m) : ordStep spare left out = (left.map (swapTo spare m.1), out ++ [(spare, m.1)]) := by
  cases left with
  | nil => simp at hm
  | cons a l =>
    simp at hm
    subst hm
    simp [ordStep, h]
/-- A move into the spare register goes out. -/
theorem ord_spill {w w5 w6 : World} {lo bl nl cl no co co' : Nat} {al ao ao' : Option Addr} {left out : List Hd} {ys : List Int} {o : Obj} (hb : Below w.heap.size w w5) (hlo : w.heap.size ≤ lo) (hlo5 : lo ≤ w5.heap.size)
    (hbx : Box w5 bl (.slice al nl cl)) (h : Ord w5 lo al nl cl left ao no co out) (hys : ys.length ≤ maxLen)
    (hown : w6.ownsRow lo 22 1 (.slice ao' (no + 1) co') (no + 1) (out.map Hd.val ++ [.slice (some ⟨w5.heap.size, 0, none⟩) ys.length ys.length]))
    (hg : ((w5.alloc (.cells (ys.map (Value.int .i64)).toArray 3)).alloc o).grownBy w6 (Value.slice ao no co).ownBlock)
    (hlies : (Value.slice ao' (no + 1) co').ownBlock = (Value.slice ao no co).ownBlock ∨ (Value.slice ao' (no + 1) co').ownBlock = some ((w5.alloc (.cells (ys.map (Value.int .i64)).toArray 3)).alloc o).heap.size) :
    Box w6 bl (.slice al nl cl) ∧ Ord w6 lo al nl cl left ao' (no + 1) co' (out ++ [⟨some ⟨w5.heap.size, 0, none⟩, ys.length, ys⟩]) ∧ Below w.heap.size w w6 := by
  have hba : Below w5.heap.size w5 ((w5.alloc (.cells (ys.map (Value.int .i64)).toArray 3)).alloc o) := ((Below.refl _ _).alloc (Nat.le_refl _) _).alloc (by simp) _
  have ha := h.below hba
  have hbxa := hbx.below hba
  have hr : ((w5.alloc (.cells (ys.map (Value.int .i64)).toArray 3)).alloc o).ownsRow lo 3 1 (Hd.val ⟨some ⟨w5.heap.size, 0, none⟩, ys.length, ys⟩) ys.length (ys.map (Value.int .i64)) := (own_lit w5 lo ys hlo5 hys).alloc o
  obtain ⟨hL6, hO6, hout⟩ := ord_push (r := ⟨some ⟨w5.heap.size, 0, none⟩, ys.length, ys⟩) ha hr hown hg hlies
  refine ⟨hbxa.kept hg (hbxa.ne ha.O.own (by decide)), ⟨hL6, hO6, hout, nodup_fresh h (fun k hk => ?_)⟩, (hb.trans (hba.mono hb.size)).grown hg (Nat.le_trans hb.size hba.size) (fun k hk => Nat.le_trans hlo (ha.O.own.lt k hk).1)⟩
  cases hk
  exact Nat.le_refl _
theorem turn_list {α : Type} (f : α → α) (l : List α) {q : Nat} {m : α} (h : l[q]? = some m) : (l.take (q + 1)).map f ++ l.drop (q + 1) = ((l.take q).map f ++ l.drop q).set q (f m) := by
  obtain ⟨hq, rfl⟩ := List.getElem?_eq_some_iff.1 h
  have h1 : ((l.take q).map f).length = q := by simp; omega
  rw [take_succ_of h, List.drop_eq_getElem_cons hq, List.map_append, List.set_append_right _ _ (by omega), h1, Nat.sub_self, List.append_assoc]
  rfl
theorem turn_get {α : Type} (f : α → α) (l : List α) {q : Nat} {m : α} (h : l[q]? = some m) : ((l.take q).map f ++ l.drop q)[q]? = some m := by
  obtain ⟨hq, rfl⟩ := List.getElem?_eq_some_iff.1 h
  have h1 : ((l.take q).map f).length = q := by simp; omega
  rw [List.getElem?_append_right (by omega), h1]
  simp
theorem set_same {α : Type} {l : List α} {q : Nat} {m : α} (h : l[q]? = some m) : l.set q m = l := by
  obtain ⟨hq, rfl⟩ := List.getElem?_eq_some_iff.1 h
  exact List.set_getElem_self hq
theorem rowsAre_set {rows : List Hd} {ps : List (Int × Int)} (h : RowsAre rows ps) (q : Nat) {r : Hd} {m : Int × Int} (hr : r.xs = enc m) : RowsAre (rows.set q r) (ps.set q m) := by
  unfold RowsAre at *
  rw [List.map_set, List.map_set, h, hr]
theorem ord_turn_at {w w' : World} {lo : Nat} {al ao : Option Addr} {nl cl no co : Nat} {left out : List Hd} {r : Hd} {ys : List Int} {q : Nat} (h : Ord w lo al nl cl left ao no co out) (hq : left[q]? = some r) (hl : ys.length = r.xs.length)
    (hr : w'.ownsRow lo 3 1 r.val r.xs.length (ys.map (Value.int .i64))) (hg : w.grownBy w' r.val.ownBlock) : Ord w' lo al nl cl (left.set q ⟨r.a, r.cap, ys⟩) ao no co out := by
  obtain ⟨hql, rfl⟩ := List.getElem?_eq_some_iff.1 hq
  have h1 : left = left.take q ++ left[q] :: left.drop (q + 1) := by rw [← List.drop_eq_getElem_cons hql, List.take_append_drop]
  have h2 : left.set q ⟨left[q].a, left[q].cap, ys⟩ = left.take q ++ ⟨left[q].a, left[q].cap, ys⟩ :: left.drop (q + 1) := by rw [List.set_eq_take_append_cons_drop, if_pos hql]
  rw [h2]
  rw [h1] at h
  exact ord_turn h hl hr hg

theorem ord_turned {w wx : World} {lo bl nl cl no co q gr ci : Nat} {al ao : Option Addr} {left out : List Hd} {x y : Int} (hb : Below w.heap.size w wx) (hlo : w.heap.size ≤ lo) (hbx : Box wx bl (.slice al nl cl))
    (h : Ord wx lo al nl cl left ao no co out) (hq : left[q]? = some ⟨some ⟨gr, 0, none⟩, ci, [x, y]⟩) (v : Int) :
    Box (wx.setCell ⟨gr, 1, none⟩ (.int .i64 v)) bl (.slice al nl cl) ∧ Ord (wx.setCell ⟨gr, 1, none⟩ (.int .i64 v)) lo al nl cl (left.set q ⟨some ⟨gr, 0, none⟩, ci, [x, v]⟩) ao no co out ∧ Below w.heap.size w (wx.setCell ⟨gr, 1, none⟩ (.int .i64 v)) := by
  have hr := h.L.rows _ (List.mem_of_getElem? hq)
  have hs := World.ownsRow.stored (g := gr) (n := 2) (cap := ci) hr 1 (.int .i64 v)
  refine ⟨hbx.kept hs.2 (hbx.ne hr (by decide)), ord_turn_at (r := ⟨some ⟨gr, 0, none⟩, ci, [x, y]⟩) (ys := [x, v]) h hq rfl hs.1 hs.2, hb.grown hs.2 hb.size (fun k hk => ?_)⟩
  exact Nat.le_trans hlo (hr.lt k hk).1

theorem ordInv_pairs {xss : List (List Int)} {spare : Int} (hm : ∀ x ∈ xss, isMove x = true) (hn : namesIn xss spare = false) : OrdInv spare (pairs xss) := by
  intro m hmem
  unfold pairs at hmem
  rw [List.mem_filter] at hmem
  obtain ⟨h1, h2⟩ := hmem
  obtain ⟨x, hx, rfl⟩ := List.mem_map.1 h1
  refine ⟨by simpa using h2, fun he => ?_⟩
  obtain ⟨i, j, hij, _, _⟩ := isMove_cases (hm x hx)
  rw [namesIn, List.any_eq_false] at hn
  have h3 := hn x hx
  rw [hij] at he h3
  simp at he h3
  exact h3.1 he.symm

/-! ### without a variable that is captured -/
theorem ret_mat_of_ord {w w' : World} {al ao : Option Addr} {cl no co F : Nat} {left out : List Hd} {ps qs R : List (Int × Int)} {spare : Int} (h : Ord w' w.heap.size al 0 cl left ao no co out) (hps : RowsAre left ps) (hqs : RowsAre out qs)
    (hend : ordEnd spare F ps qs = R) (hb : Below w.heap.size w w') : RetMat w (R.map enc) R.length (.returned (.slice ao no co)) w' := by
  have hl : left = [] := by
    have := h.L.own.1
    exact List.eq_nil_of_length_eq_zero (by simpa using this)
  subst hl
  have hp : ps = [] := List.eq_nil_of_length_eq_zero (by rw [← hps.length]; rfl)
  subst hp
  rw [ordEnd_nil] at hend
  subst hend
  have hn : (blocks out).Nodup := by have := h.apart; simpa using this
  have hl : no = qs.length := by rw [← hqs.length]; exact h.O.at.length.symm
  subst hl
  exact ⟨ao, co, out, rfl, own_of_mine h.O hn, hqs, hb⟩
theorem freeAt_of {ps : List (Int × Int)} {k : Nat} {m : Int × Int} (hm : ps[k]? = some m) (hf : isFree ps m = true) (hno : ∀ j x, j < k → ps[j]? = some x → isFree ps x = false) : freeAt ps = some k := by
  unfold freeAt
  rw [List.findIdx?_eq_some_iff_getElem]
  obtain ⟨hk, rfl⟩ := List.getElem?_eq_some_iff.1 hm
  exact ⟨hk, hf, fun j hj => by rw [hno j _ hj (List.getElem?_eq_getElem (by omega))]; simp⟩
theorem freeAt_of_none {ps : List (Int × Int)} (hno : ∀ (j : Nat) (x : Int × Int), ps[j]? = some x → isFree ps x = false) : freeAt ps = none := by
  unfold freeAt
  rw [List.findIdx?_eq_none_iff]
  intro x hx
  obtain ⟨j, hj⟩ := List.getElem?_of_mem hx
  exact hno j x hj
/-- A move goes out: what lies there behind the append. -/
theorem ord_out {w wr w6 : World} {lo nl cl no co co' k : Nat} {al ao ao' : Option Addr} {left out : List Hd} {r : Hd} {o : Obj} (hb : Below w.heap.size w wr) (hlo : w.heap.size ≤ lo)
    (h : Ord wr lo al nl cl left ao no co out) (hr : left[k]? = some r)
    (hown : w6.ownsRow lo 22 1 (.slice ao' (no + 1) co') (no + 1) (out.map Hd.val ++ [r.val])) (hg : (wr.alloc o).grownBy w6 (Value.slice ao no co).ownBlock)
    (hlies : (Value.slice ao' (no + 1) co').ownBlock = (Value.slice ao no co).ownBlock ∨ (Value.slice ao' (no + 1) co').ownBlock = some (wr.alloc o).heap.size) :
    MatMine w6 lo al nl cl left ∧ MatMine w6 lo ao' (no + 1) co' (out ++ [r]) ∧ Below w.heap.size w w6 ∧ (blocks (left.eraseIdx k ++ (out ++ [r]))).Nodup := by
  have hba : Below wr.heap.size wr (wr.alloc o) := (Below.refl _ _).alloc (Nat.le_refl _) _
  have ha := h.below hba
  have hrm := List.mem_of_getElem? hr
  obtain ⟨hL6, hO6, _⟩ := ord_push ha (ha.L.rows r hrm) hown hg hlies
  exact ⟨hL6, hO6, (hb.alloc hb.size o).grown hg (Nat.le_trans hb.size hba.size) (fun k hk => Nat.le_trans hlo (ha.O.own.lt k hk).1), nodup_move h.apart hr⟩
theorem ord_cut {w w6 w8 : World} {lo nl cl no co n8 c8 k : Nat} {al ao a8 : Option Addr} {left out : List Hd} (hb6 : Below w.heap.size w w6) (hlo : lo ≤ w6.heap.size) (hL : MatMine w6 lo al nl cl left) (hO : MatMine w6 lo ao no co out) (hn : (blocks (left.eraseIdx k ++ out)).Nodup)
    (hb8 : Below w6.heap.size w6 w8) (hown8 : w8.ownsRow w6.heap.size 22 1 (.slice a8 n8 c8) n8 ((left.eraseIdx k).map Hd.val)) : Ord w8 lo a8 n8 c8 (left.eraseIdx k) ao no co out ∧ Below w.heap.size w w8 := by
  have ht := turned_of_below hb8 (S := fun k => w6.heap.size ≤ k) (fun _ hk _ => hk)
  refine ⟨⟨⟨own_lower hown8 (fun q hq => Nat.le_trans hlo (hown8.lt q hq).1), fun x hx => own_turned (hL.rows x (List.mem_of_mem_eraseIdx hx)) ht (fun q hq hs => by have := ((hL.rows x (List.mem_of_mem_eraseIdx hx)).lt q hq).2; omega)⟩, hO.far ht (fun _ hk => .inr hk), fun q hq hq' => ?_, hn⟩, hb6.trans (hb8.mono hb6.size)⟩
  have h1 := (hown8.lt q hq).1
  have h2 := (hO.own.lt q hq').2
  omega
theorem ord_spill' {w w5 w6 : World} {lo nl cl no co co' : Nat} {al ao ao' : Option Addr} {left out : List Hd} {ys : List Int} {o : Obj} (hb : Below w.heap.size w w5) (hlo : w.heap.size ≤ lo) (hlo5 : lo ≤ w5.heap.size)
    (h : Ord w5 lo al nl cl left ao no co out) (hys : ys.length ≤ maxLen)
    (hown : w6.ownsRow lo 22 1 (.slice ao' (no + 1) co') (no + 1) (out.map Hd.val ++ [.slice (some ⟨w5.heap.size, 0, none⟩) ys.length ys.length]))
    (hg : ((w5.alloc (.cells (ys.map (Value.int .i64)).toArray 3)).alloc o).grownBy w6 (Value.slice ao no co).ownBlock)
    (hlies : (Value.slice ao' (no + 1) co').ownBlock = (Value.slice ao no co).ownBlock ∨ (Value.slice ao' (no + 1) co').ownBlock = some ((w5.alloc (.cells (ys.map (Value.int .i64)).toArray 3)).alloc o).heap.size) :
    Ord w6 lo al nl cl left ao' (no + 1) co' (out ++ [⟨some ⟨w5.heap.size, 0, none⟩, ys.length, ys⟩]) ∧ Below w.heap.size w w6 := by
  have hba : Below w5.heap.size w5 ((w5.alloc (.cells (ys.map (Value.int .i64)).toArray 3)).alloc o) := ((Below.refl _ _).alloc (Nat.le_refl _) _).alloc (by simp) _
  have ha := h.below hba
  have hr : ((w5.alloc (.cells (ys.map (Value.int .i64)).toArray 3)).alloc o).ownsRow lo 3 1 (Hd.val ⟨some ⟨w5.heap.size, 0, none⟩, ys.length, ys⟩) ys.length (ys.map (Value.int .i64)) := (own_lit w5 lo ys hlo5 hys).alloc o
  obtain ⟨hL6, hO6, hout⟩ := ord_push (r := ⟨some ⟨w5.heap.size, 0, none⟩, ys.length, ys⟩) ha hr hown hg hlies
  refine ⟨⟨hL6, hO6, hout, nodup_fresh h (fun k hk => ?_)⟩, (hb.trans (hba.mono hb.size)).grown hg (Nat.le_trans hb.size hba.size) (fun k hk => Nat.le_trans hlo (ha.O.own.lt k hk).1)⟩
  cases hk
  exact Nat.le_refl _
theorem ord_turned' {w wx : World} {lo nl cl no co q gr ci : Nat} {al ao : Option Addr} {left out : List Hd} {x y : Int} (hb : Below w.heap.size w wx) (hlo : w.heap.size ≤ lo)
    (h : Ord wx lo al nl cl left ao no co out) (hq : left[q]? = some ⟨some ⟨gr, 0, none⟩, ci, [x, y]⟩) (v : Int) :
    Ord (wx.setCell ⟨gr, 1, none⟩ (.int .i64 v)) lo al nl cl (left.set q ⟨some ⟨gr, 0, none⟩, ci, [x, v]⟩) ao no co out ∧ Below w.heap.size w (wx.setCell ⟨gr, 1, none⟩ (.int .i64 v)) := by
  have hr := h.L.rows _ (List.mem_of_getElem? hq)
  have hs := World.ownsRow.stored (g := gr) (n := 2) (cap := ci) hr 1 (.int .i64 v)
  refine ⟨ord_turn_at (r := ⟨some ⟨gr, 0, none⟩, ci, [x, y]⟩) (ys := [x, v]) h hq rfl hs.1 hs.2, hb.grown hs.2 hb.size (fun k hk => ?_)⟩
  exact Nat.le_trans hlo (hr.lt k hk).1

/-! ### namesReg -/
theorem namesFn_any (ai : Option Addr) (ci : Nat) (xs : List Int) (r : Int) (bx : Nat) (w : World) (hin : IntsRd w ai xs.length xs) (hbx : w.cell? ⟨bx, 0, none⟩ = some (.int .i64 r)) (hs : xs.length ≤ 1099511627776) :
    Calls Try.prog 76 #[.slice ai xs.length ci, .pointer (some ⟨bx, 0, none⟩)] w fun e w' => e = .returned (.bool (decide (r ∈ xs))) ∧ w = w' := by
  go_enter Try.func76, Try.ntmps76
  go_wp2_with fail
  refine (contains_any ai xs.length ci xs r w hin hs).mono ?_
  rintro e w1 ⟨rfl, rfl⟩
  go_wp2
  go_ret
  exact ⟨rfl, rfl⟩
theorem namesReg_any (a : Option Addr) (len cap : Nat) (rows : List Hd) (r : Int) (w : World) (hin : MatRd w a len rows) (hs : len ≤ 1099511627776) (hrl : ∀ r ∈ rows, r.xs.length ≤ 1099511627776) :
    Calls Try.prog 60 #[.slice a len cap, .int .i64 r] w fun e w' => e = .returned (.bool (namesIn (rows.map Hd.xs) r)) ∧ Below w.heap.size w w' := by
  have hmf : ∀ (fn : Fn) (first cap : Array Value) (w : World), (Instr.makeFunc fn first cap).run Try.prog w = .ok (.func fn first cap) w := fun _ _ _ _ => rfl
  have hb0 : Below w.heap.size w (w.alloc (.cells #[.int .i64 r] 3)) := (Below.refl _ _).alloc (Nat.le_refl _) _
  have hin0 := hin.later hb0
  have hbx0 : (w.alloc (.cells #[.int .i64 r] 3)).cell? ⟨w.heap.size, 0, none⟩ = some (.int .i64 r) := by rw [World.cell?_alloc_at _ _ _ _ rfl]; rfl
  have hfn : BoolFn (w.alloc (.cells #[.int .i64 r] 3)) 76 #[.pointer (some ⟨w.heap.size, 0, none⟩)] rows (fun x => decide (r ∈ x.xs)) :=
    ⟨fun _ _ => rfl, fun x hx W hW => (namesFn_any x.a x.cap x.xs r w.heap.size W ((hin0.rows x hx).later hW) (cell_later hW hbx0) (hrl x hx)).mono fun _ _ ⟨he, hw⟩ => ⟨he, by rw [← hw]; exact Below.refl _ _⟩⟩
  have HV : Hid ((rows.any fun x => decide (r ∈ x.xs)) = namesIn (rows.map Hd.xs) r) := Lib.hid (by rw [namesIn, List.any_map]; rfl)
  clear hbx0
  go_enter Try.func60, Try.ntmps60
  go_wp2_with fail
  refine (containsFunc_any _ _ _ a len cap rows _ hin0 hfn hs).mono ?_
  rintro e w1 ⟨rfl, hb1⟩
  have hb01 := hb0.trans (hb1.mono hb0.size)
  go_wp2
  go_ret
  exact ⟨ret_bool HV.out, hb01⟩

end Go.Proofs.Ythadaohnanpmiaa
