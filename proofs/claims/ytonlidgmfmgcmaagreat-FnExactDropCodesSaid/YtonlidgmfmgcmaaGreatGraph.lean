
/-
  Graphs as lists of lists of numbers: which blocks are reached without going over one; the visit in depth. No program in sight.
-/
import Derived.Test.YtonlidgmfmgcmaaGreatCore
namespace Go.Proofs.YtonlidgmfmgcmaaGreat
open Go.RowKit

/-- Is a number one of n? -/
def okN (n : Nat) (x : Int) : Bool := decide (0 ≤ x) && decide (x ≤ (n : Int) - 1)
theorem okN_iff {n : Nat} {x : Int} : okN n x = true ↔ 0 ≤ x ∧ x < n := by simp [okN]; omega
/-- All Next are blocks, and there is a block. -/
def fits (g : List (List Int)) : Bool := g.all (fun l => l.all (okN g.length)) && decide (0 < g.length)
structure Fits (g : List (List Int)) : Prop where
  pos : 0 < g.length
  inn : ∀ (u : Nat) l, g[u]? = some l → ∀ x ∈ l, 0 ≤ x ∧ x < g.length
theorem fits_iff {g : List (List Int)} : fits g = true ↔ Fits g := by
  simp only [fits, Bool.and_eq_true, List.all_eq_true, decide_eq_true_eq]
  constructor
  · rintro ⟨h1, h2⟩
    exact ⟨h2, fun u l hl x hx => okN_iff.1 (h1 l (List.mem_of_getElem? hl) x hx)⟩
  · rintro ⟨h1, h2⟩
    refine ⟨fun l hl x hx => ?_, h1⟩
    obtain ⟨u, hu⟩ := List.mem_iff_getElem?.1 hl
    exact okN_iff.2 (h2 u l hu x hx)

/-- Reached from block 0 without going over a. -/
inductive Reach (g : List (List Int)) (a : Int) : Nat → Prop
  | zero : a ≠ 0 → 0 < g.length → Reach g a 0
  | step {u : Nat} {l : List Int} {v : Nat} : Reach g a u → g[u]? = some l → (v : Int) ∈ l → (v : Int) ≠ a → v < g.length → Reach g a v
theorem Reach.lt {g : List (List Int)} {a : Int} {v : Nat} (h : Reach g a v) : v < g.length := by
  cases h with
  | zero _ h => exact h
  | step _ _ _ _ h => exact h
theorem Reach.ne {g : List (List Int)} {a : Int} {v : Nat} (h : Reach g a v) : (v : Int) ≠ a := by
  cases h with
  | zero h _ => intro e; exact h (by simpa using e.symm)
  | step _ _ _ h _ => exact h
open Classical in
noncomputable def reachB (g : List (List Int)) (a : Int) (v : Nat) : Bool := decide (Reach g a v)
theorem reachB_true {g : List (List Int)} {a : Int} {v : Nat} : reachB g a v = true ↔ Reach g a v := by simp [reachB]
theorem reachB_false {g : List (List Int)} {a : Int} {v : Nat} : reachB g a v = false ↔ ¬ Reach g a v := by simp [reachB]
/-- Does a dominate b? -/
noncomputable def domB (g : List (List Int)) (a b : Nat) : Bool := reachB g (-1) a && (reachB g (-1) b && !reachB g a b)
noncomputable def reachRow (g : List (List Int)) (a : Int) : List Bool := (List.range g.length).map (reachB g a)
noncomputable def domRow (g : List (List Int)) (a : Nat) : List Bool := (List.range g.length).map (domB g a)
noncomputable def domMat (g : List (List Int)) : List (List Bool) := (List.range g.length).map (domRow g)

/-- What a closed set of blocks holds. -/
theorem reach_closed {g : List (List Int)} {a : Int} {S : Nat → Prop} (h0 : a ≠ 0 → 0 < g.length → S 0)
    (hs : ∀ (u : Nat) l, S u → (u : Int) ≠ a → g[u]? = some l → ∀ v : Nat, (v : Int) ∈ l → (v : Int) ≠ a → v < g.length → S v) {v : Nat} (h : Reach g a v) : S v := by
  induction h with
  | zero h1 h2 => exact h0 h1 h2
  | step h1 h2 h3 h4 h5 ih => exact hs _ _ ih h1.ne h2 _ h3 h4 h5

/-! ### the visit in depth -/
abbrev St := List Bool × List Int
def seenAt (s : List Bool) (v : Int) : Bool := s.getD v.toNat true
/-- A block is visited if it has not been seen. -/
def dfs (g : List (List Int)) : Nat → Int → St → St
  | 0, _, st => st
  | f + 1, n, st => if seenAt st.1 n then st else
      let st1 := (g.getD n.toNat []).foldl (fun st m => dfs g f m st) (st.1.set n.toNat true, st.2)
      (st1.1, st1.2 ++ [n])
def unseen (s : List Bool) : Nat := s.countP (fun b => !b)
theorem unseen_le (s : List Bool) : unseen s ≤ s.length := List.countP_le_length
theorem unseen_set {s : List Bool} {v : Nat} (h : s[v]? = some false) : unseen s = unseen (s.set v true) + 1 := by
  unfold unseen
  induction s generalizing v with
  | nil => simp at h
  | cons b s ih =>
    cases v with
    | zero =>
      simp at h
      subst h
      simp
    | succ v =>
      have := ih (v := v) (by simpa using h)
      simp only [List.set_cons_succ, List.countP_cons]
      omega
theorem seenAt_false {s : List Bool} {v : Int} (h : seenAt s v = false) : s[v.toNat]? = some false := by
  unfold seenAt at h
  rw [List.getD_eq_getElem?_getD] at h
  cases hs : s[v.toNat]? with
  | none => simp [hs] at h
  | some b => simp [hs] at h; rw [h]

/-- What is seen stays seen, and the length stands. -/
structure More (s s' : List Bool) : Prop where
  length : s'.length = s.length
  more : ∀ v : Nat, s[v]? = some true → s'[v]? = some true
theorem More.refl (s : List Bool) : More s s := ⟨rfl, fun _ h => h⟩
theorem More.trans {a b c : List Bool} (h : More a b) (k : More b c) : More a c := ⟨k.length.trans h.length, fun v hv => k.more v (h.more v hv)⟩
theorem more_set (s : List Bool) (v : Nat) : More s (s.set v true) := by
  refine ⟨by simp, fun u hu => ?_⟩
  rw [List.getElem?_set]
  split
  · rename_i h; subst h; rw [if_pos (List.getElem?_eq_some_iff.1 hu).1]
  · exact hu
theorem foldl_more {F : St → Int → St} (hF : ∀ st n, More st.1 (F st n).1) : ∀ (l : List Int) (st : St), More st.1 (l.foldl F st).1
  | [], _ => More.refl _
  | n :: l, st => (hF st n).trans (foldl_more hF l (F st n))
theorem dfs_more (g : List (List Int)) : ∀ (f : Nat) (n : Int) (st : St), More st.1 (dfs g f n st).1
  | 0, _, _ => More.refl _
  | f + 1, n, st => by
    unfold dfs
    split
    · exact More.refl _
    · exact (more_set st.1 n.toNat).trans (foldl_more (F := fun st m => dfs g f m st) (fun st m => dfs_more g f m st) (g.getD n.toNat []) (st.1.set n.toNat true, st.2))
theorem unseen_more {s s' : List Bool} (h : More s s') : unseen s' ≤ unseen s := by
  obtain ⟨hl, hm⟩ := h
  unfold unseen
  induction s generalizing s' with
  | nil => have : s' = [] := List.length_eq_zero_iff.1 (by simpa using hl)
           subst this; simp
  | cons b s ih =>
    cases s' with
    | nil => simp at hl
    | cons b' s' =>
      have h1 := ih (s' := s') (by simpa using hl) (fun v hv => by have := hm (v + 1) (by simpa using hv); simpa using this)
      have h2 := hm 0
      simp only [List.countP_cons]
      cases b <;> cases b' <;> simp_all <;> omega

/-- What is newly seen is reached. -/
theorem dfs_sound {g : List (List Int)} {a : Int} (hg : Fits g) : ∀ (f : Nat) (n : Int) (st : St), (seenAt st.1 n = false → Reach g a n.toNat) → (∀ v : Nat, (v : Int) = a → st.1[v]? ≠ some false) → st.1.length = g.length →
    ∀ v, (dfs g f n st).1[v]? = some true → st.1[v]? = some true ∨ Reach g a v
  | 0, _, _, _, _, _ => fun _ h => .inl h
  | f + 1, n, st, hn, ha, hlen => by
    unfold dfs
    split
    · exact fun _ h => .inl h
    · rename_i hs
      have hs : seenAt st.1 n = false := by simpa using hs
      have hr := hn hs
      have key : ∀ (l : List Int) (st1 : St), More (st.1.set n.toNat true) st1.1 → (∀ x ∈ l, x ∈ g.getD n.toNat []) → (∀ v, st1.1[v]? = some true → st.1[v]? = some true ∨ Reach g a v) →
          ∀ v, (l.foldl (fun st m => dfs g f m st) st1).1[v]? = some true → st.1[v]? = some true ∨ Reach g a v := by
        intro l
        induction l with
        | nil => intro st1 _ _ h; exact h
        | cons x l ih =>
          intro st1 hm hx h
          have hma : ∀ v : Nat, (v : Int) = a → st1.1[v]? ≠ some false := by
            intro v hv h0
            have hlt : v < g.length := by have := (List.getElem?_eq_some_iff.1 h0).1; rw [hm.length] at this; simp at this; omega
            have h1 := ha v hv
            have h2 : st.1[v]? = some true := by
              rw [List.getElem?_eq_getElem (by omega)] at h1 ⊢
              cases hb : st.1[v]'(by omega) <;> simp_all
            have := hm.more v ((more_set _ _).more v h2)
            rw [h0] at this; simp at this
          refine ih (dfs g f x st1) (hm.trans (dfs_more g f x st1)) (fun y hy => hx y (by simp [hy])) ?_
          intro v hv
          have hgl : g[n.toNat]? = some (g[n.toNat]'hr.lt) := List.getElem?_eq_getElem _
          have hxin : x ∈ g[n.toNat]'hr.lt := by
            have := hx x (by simp)
            rwa [List.getD_eq_getElem?_getD, hgl] at this
          have hxr := hg.inn _ _ hgl x hxin
          rcases dfs_sound hg f x st1 (fun hun => by
            refine Reach.step hr hgl (v := x.toNat) (by rw [Int.toNat_of_nonneg hxr.1]; exact hxin) (fun e => ?_) (by omega)
            exact hma x.toNat e (seenAt_false hun)) hma (by rw [hm.length]; simpa using hlen) v hv with h3 | h3
          · exact h v h3
          · exact .inr h3
      refine key _ _ (More.refl _) (fun x hx => hx) ?_
      intro v hv
      rw [List.getElem?_set] at hv
      split at hv
      · rename_i e; subst e; exact .inr hr
      · exact .inl hv

/-- With fuel enough, what is newly seen has its Next seen. -/
theorem dfs_closed {g : List (List Int)} (hg : Fits g) : ∀ (f : Nat) (n : Int) (st : St), 0 ≤ n → n < g.length → st.1.length = g.length → unseen st.1 ≤ f →
    (dfs g f n st).1[n.toNat]? = some true ∧ ∀ (v : Nat) (l : List Int), (dfs g f n st).1[v]? = some true → st.1[v]? ≠ some true → g[v]? = some l → ∀ x ∈ l, (dfs g f n st).1[x.toNat]? = some true
  | 0, n, st, h0, h1, hl, hu => by
    have hall : ∀ v, v < g.length → st.1[v]? = some true := by
      intro v hv
      rw [List.getElem?_eq_getElem (by omega)]
      cases hb : st.1[v]'(by omega) with
      | true => rfl
      | false =>
        have := unseen_set (s := st.1) (v := v) (by rw [List.getElem?_eq_getElem (by omega), hb])
        omega
    exact ⟨hall _ (by omega), fun v l hv hn => absurd hv hn⟩
  | f + 1, n, st, h0, h1, hl, hu => by
    unfold dfs
    split
    · rename_i hs
      refine ⟨?_, fun v l hv hn => absurd hv hn⟩
      unfold seenAt at hs
      rw [List.getD_eq_getElem?_getD, List.getElem?_eq_getElem (by omega)] at hs
      rw [List.getElem?_eq_getElem (by omega)]
      simpa using hs
    · rename_i hs
      have hs : seenAt st.1 n = false := by simpa using hs
      have hun := unseen_set (seenAt_false hs)
      have hgl : g[n.toNat]? = some (g[n.toNat]'(by omega)) := List.getElem?_eq_getElem _
      have hin := hg.inn _ _ hgl
      have key : ∀ (l : List Int) (st1 : St), More (st.1.set n.toNat true) st1.1 → (∀ x ∈ l, 0 ≤ x ∧ x < g.length) →
          More st1.1 (l.foldl (fun st m => dfs g f m st) st1).1 ∧ (∀ x ∈ l, (l.foldl (fun st m => dfs g f m st) st1).1[x.toNat]? = some true) ∧
          ∀ (v : Nat) (k : List Int), (l.foldl (fun st m => dfs g f m st) st1).1[v]? = some true → st1.1[v]? ≠ some true → g[v]? = some k → ∀ x ∈ k, (l.foldl (fun st m => dfs g f m st) st1).1[x.toNat]? = some true := by
        intro l
        induction l with
        | nil => intro st1 _ _; exact ⟨More.refl _, fun x hx => by simp at hx, fun v k hv hn => absurd hv hn⟩
        | cons y l ih =>
          intro st1 hm hx
          have hy := hx y (by simp)
          have hfu : unseen st1.1 ≤ f := by have := unseen_more hm; omega
          have hc := dfs_closed hg f y st1 hy.1 hy.2 (by rw [hm.length]; simpa using hl) hfu
          have hmd := dfs_more g f y st1
          have hih := ih (dfs g f y st1) (hm.trans hmd) (fun x h => hx x (by simp [h]))
          refine ⟨hmd.trans hih.1, fun x h => ?_, fun v k hv hn hk x hxk => ?_⟩
          · rcases List.mem_cons.1 h with rfl | h
            · exact hih.1.more _ hc.1
            · exact hih.2.1 x h
          · by_cases hd : (dfs g f y st1).1[v]? = some true
            · exact hih.1.more _ (hc.2 v k hd hn hk x hxk)
            · exact hih.2.2 v k hv hd hk x hxk
      have hk := key (g[n.toNat]'(by omega)) (st.1.set n.toNat true, st.2) (More.refl _) hin
      rw [List.getD_eq_getElem?_getD, hgl]
      simp only [Option.getD_some]
      refine ⟨hk.1.more _ (by rw [List.getElem?_set]; simp; omega), fun v l hv hn hgv x hx => ?_⟩
      by_cases e : v = n.toNat
      · subst e
        rw [hgl] at hgv
        cases hgv
        exact hk.2.1 x hx
      · refine hk.2.2 v l hv ?_ hgv x hx
        rw [List.getElem?_set, if_neg (fun e2 => e e2.symm)]
        exact hn

/-- The visit from block 0 sees what is reached without going over a, and what was seen. -/
theorem dfs_reach {g : List (List Int)} {a : Int} (hg : Fits g) (o : List Int) (s : List Bool) (hs : ∀ v : Nat, s[v]? = some true ↔ (v : Int) = a ∧ v < g.length) (hl : s.length = g.length) (ha : a ≠ 0) (v : Nat) :
    (dfs g g.length 0 (s, o)).1[v]? = some true ↔ ((v : Int) = a ∧ v < g.length) ∨ Reach g a v := by
  have h0 : Reach g a 0 := Reach.zero ha hg.pos
  have hm := dfs_more g g.length 0 (s, o)
  have hc := dfs_closed hg g.length 0 (s, o) (Int.le_refl _) (by have := hg.pos; omega) hl (by have := unseen_le s; show unseen s ≤ _; omega)
  constructor
  · intro h
    rcases dfs_sound hg g.length 0 (s, o) (fun _ => h0) (fun u hu hf => by
      have hlt := (List.getElem?_eq_some_iff.1 hf).1
      have hlt2 : u < s.length := hlt
      have := (hs u).2 ⟨hu, by omega⟩
      rw [this] at hf; simp at hf) hl v h with h1 | h1
    · exact .inl ((hs v).1 h1)
    · exact .inr h1
  · rintro (h | h)
    · exact hm.more v ((hs v).2 h)
    · refine reach_closed (S := fun v => (dfs g g.length 0 (s, o)).1[v]? = some true) (fun _ _ => hc.1) ?_ h
      intro u l hu hua hgu w hw _ hwl
      exact hc.2 u l hu (fun h2 => hua ((hs u).1 h2).1) hgu w hw

end Go.Proofs.YtonlidgmfmgcmaaGreat
