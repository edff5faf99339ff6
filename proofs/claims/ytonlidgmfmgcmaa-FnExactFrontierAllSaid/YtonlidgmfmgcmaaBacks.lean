
/-
  The edges back, plain.
-/
import Derived.Test.YtonlidgmfmgcmaaOrderIn3
import Derived.Test.YtonlidgmfmgcmaaReachedIn
import Derived.Test.YtonlidgmfmgcmaaMat
namespace Go.Proofs.Ytonlidgmfmgcmaa
open Go.RowKit

/-! ### what the visit lists is what it sees -/
theorem foldl_grow {F : St → Int → St} (h : ∀ st n, ∀ z ∈ st.2, z ∈ (F st n).2) : ∀ (l : List Int) (st : St), ∀ z ∈ st.2, z ∈ (l.foldl F st).2
  | [], _, _, hz => hz
  | n :: l, st, z, hz => foldl_grow h l (F st n) z (h st n z hz)
theorem dfs_grow (g : List (List Int)) : ∀ (f : Nat) (n : Int) (st : St), ∀ z ∈ st.2, z ∈ (dfs g f n st).2
  | 0, _, _, _, hz => hz
  | f + 1, n, st, z, hz => by
    unfold dfs
    split
    · exact hz
    · exact List.mem_append_left _ (foldl_grow (F := fun st m => dfs g f m st) (fun st m => dfs_grow g f m st) _ (st.1.set n.toNat true, st.2) z hz)
theorem foldl_listed {F : St → Int → St} (hg : ∀ st n, ∀ z ∈ st.2, z ∈ (F st n).2) {l : List Int} (h : ∀ n ∈ l, ∀ st, ∀ v : Nat, (F st n).1[v]? = some true → st.1[v]? = some true ∨ (v : Int) ∈ (F st n).2) (st : St) (v : Nat)
    (hv : (l.foldl F st).1[v]? = some true) : st.1[v]? = some true ∨ (v : Int) ∈ (l.foldl F st).2 := by
  induction l generalizing st with
  | nil => exact .inl hv
  | cons n l ih =>
    rcases ih (fun m hm => h m (List.mem_cons_of_mem _ hm)) (F st n) hv with h1 | h1
    · rcases h n (List.mem_cons_self) st v h1 with h2 | h2
      · exact .inl h2
      · exact .inr (foldl_grow hg l (F st n) _ h2)
    · exact .inr h1
theorem row_nonneg {g : List (List Int)} (hg : Fits g) (n : Nat) : ∀ m ∈ g.getD n [], 0 ≤ m ∧ m < g.length := by
  intro m hm
  rw [List.getD_eq_getElem?_getD] at hm
  cases hx : g[n]? with
  | none => rw [hx] at hm; simp at hm
  | some l => rw [hx] at hm; exact hg.inn n l hx m hm
theorem dfs_listed {g : List (List Int)} (hg : Fits g) : ∀ (f : Nat) (n : Int), 0 ≤ n → ∀ (st : St) (v : Nat), (dfs g f n st).1[v]? = some true → st.1[v]? = some true ∨ (v : Int) ∈ (dfs g f n st).2
  | 0, _, _, _, _, h => .inl h
  | f + 1, n, hn, st, v, h => by
    unfold dfs at h ⊢
    split at h
    · rename_i hs; rw [if_pos hs]; exact .inl h
    · rename_i hs
      rw [if_neg hs]
      rcases foldl_listed (F := fun st m => dfs g f m st) (fun st m => dfs_grow g f m st) (fun m hm st v => dfs_listed hg f m (row_nonneg hg _ m hm).1 st v) _ v h with h1 | h1
      · rw [List.getElem?_set] at h1
        split at h1
        · rename_i e
          refine .inr (List.mem_append_right _ ?_)
          rw [List.mem_singleton]
          omega
        · exact .inl h1
      · exact .inr (List.mem_append_left _ h1)
theorem foldl_seen {F : St → Int → St} (hm : ∀ st n, More st.1 (F st n).1) {l : List Int} (h : ∀ n ∈ l, ∀ st, ∀ z ∈ (F st n).2, z ∈ st.2 ∨ (0 ≤ z ∧ (F st n).1[z.toNat]? = some true)) (st : St) (z : Int)
    (hz : z ∈ (l.foldl F st).2) : z ∈ st.2 ∨ (0 ≤ z ∧ (l.foldl F st).1[z.toNat]? = some true) := by
  induction l generalizing st with
  | nil => exact .inl hz
  | cons n l ih =>
    rcases ih (fun m hm => h m (List.mem_cons_of_mem _ hm)) (F st n) hz with h1 | h1
    · rcases h n (List.mem_cons_self) st z h1 with h2 | h2
      · exact .inl h2
      · exact .inr ⟨h2.1, (foldl_more hm l (F st n)).more _ h2.2⟩
    · exact .inr h1
theorem dfs_marked {g : List (List Int)} (hg : Fits g) : ∀ (f : Nat) (n : Int), 0 ≤ n → ∀ (st : St), ∀ z ∈ (dfs g f n st).2, z ∈ st.2 ∨ (0 ≤ z ∧ (dfs g f n st).1[z.toNat]? = some true)
  | 0, _, _, _, _, h => .inl h
  | f + 1, n, hn, st, z, h => by
    unfold dfs at h ⊢
    split at h
    · rename_i hs; rw [if_pos hs]; exact .inl h
    · rename_i hs
      rw [if_neg hs]
      rcases List.mem_append.1 h with h1 | h1
      · exact foldl_seen (F := fun st m => dfs g f m st) (fun st m => dfs_more g f m st) (fun m hm st => dfs_marked hg f m (row_nonneg hg _ m hm).1 st) (st.1.set n.toNat true, st.2) z h1
      · rw [List.mem_singleton] at h1
        subst h1
        refine .inr ⟨hn, (foldl_more (F := fun st m => dfs g f m st) (fun st m => dfs_more g f m st) _ (st.1.set z.toNat true, st.2)).more _ ?_⟩
        have h2 := seenAt_false (by simpa using hs)
        rw [List.getElem?_set, if_pos rfl, if_pos (List.getElem?_eq_some_iff.1 h2).1]
theorem leftOf_mem {g : List (List Int)} (hg : Fits g) {z : Int} : z ∈ leftOf g ↔ 0 ≤ z ∧ Reach g (-1) z.toNat := by
  have hv : ∀ v : Nat, (dfs g g.length 0 (List.replicate g.length false, [])).1[v]? = some true ↔ Reach g (-1) v := by
    intro v
    rw [visit_all hg]
    constructor
    · intro h
      have hl : v < g.length := by have := (List.getElem?_eq_some_iff.1 h).1; rwa [reachRow_length] at this
      rw [reachRow_get hl] at h
      exact reachB_true.1 (by simpa using h)
    · intro h
      rw [reachRow_get h.lt, reachB_true.2 h]
  constructor
  · intro h
    rcases dfs_marked hg _ _ (Int.le_refl _) _ z h with h1 | h1
    · simp at h1
    · exact ⟨h1.1, (hv _).1 h1.2⟩
  · rintro ⟨h0, h⟩
    rcases dfs_listed hg _ _ (Int.le_refl _) _ _ ((hv _).2 h) with h1 | h1
    · exact absurd h1 replicate_get
    · rw [Int.toNat_of_nonneg h0] at h1; exact h1
theorem leftOf_lt {g : List (List Int)} (hg : Fits g) {z : Int} (h : z ∈ leftOf g) : 0 ≤ z ∧ z < g.length := by
  have h1 := (leftOf_mem hg).1 h
  have := h1.2.lt
  omega
theorem leftOf_next {g : List (List Int)} (hg : Fits g) {b x : Int} (h : b ∈ leftOf g) (hx : x ∈ g.getD b.toNat []) : x ∈ leftOf g := by
  have h1 := (leftOf_mem hg).1 h
  have h2 := row_nonneg hg _ x hx
  refine (leftOf_mem hg).2 ⟨h2.1, ?_⟩
  rw [List.getD_eq_getElem?_getD] at hx
  cases hl : g[b.toNat]? with
  | none => rw [hl] at hx; simp at hx
  | some l =>
    rw [hl] at hx
    refine Reach.step h1.2 hl ?_ ?_ ?_
    · rw [Int.toNat_of_nonneg h2.1]; exact hx
    · omega
    · omega

/-! ### where a number is last -/
def plTo (L : List Int) (d : Int) : Nat → Int → Int
  | 0, _ => d
  | i + 1, v => if L[i]? = some v then (i : Int) else plTo L d i v
theorem plTo_nonneg {L : List Int} {v : Int} : ∀ k, 0 ≤ plTo L (-1) k v ↔ v ∈ L.take k
  | 0 => by simp [plTo]
  | k + 1 => by
    rw [plTo, List.take_add_one, List.mem_append]
    split
    · rename_i h; rw [h]; simp
    · rename_i h
      rw [plTo_nonneg k]
      constructor
      · exact .inl
      · rintro (h1 | h1)
        · exact h1
        · exact absurd (by simpa using h1) h
theorem plTo_same {L : List Int} {d d' v : Int} : ∀ {k}, v ∈ L.take k → plTo L d k v = plTo L d' k v
  | 0, h => by simp at h
  | k + 1, h => by
    rw [plTo, plTo]
    split
    · rfl
    · rename_i hn
      rw [List.take_add_one, List.mem_append] at h
      rcases h with h | h
      · exact plTo_same h
      · exact absurd (by simpa using h) hn
theorem plTo_succ {L : List Int} {d v x : Int} {k : Nat} (h : L[k]? = some x) : plTo L d (k + 1) v = if v = x then (k : Int) else plTo L d k v := by
  rw [plTo, h]
  by_cases hv : v = x
  · subst hv; simp
  · rw [if_neg hv, if_neg (by simpa using fun e => hv e.symm)]
def plOf (L : List Int) (v : Int) : Int := plTo L (-1) L.length v
theorem plOf_nonneg {L : List Int} {v : Int} : 0 ≤ plOf L v ↔ v ∈ L := by
  have h := plTo_nonneg (L := L) (v := v) L.length
  rwa [List.take_length] at h
theorem plOf_zero {L : List Int} {v : Int} (h : v ∈ L) : plTo L 0 L.length v = plOf L v := plTo_same (by rwa [List.take_length])

/-! ### the edges -/
def backRow (L : List Int) (b : Int) (xs : List Int) : Nat → List (List Int)
  | 0 => []
  | k + 1 => backRow L b xs k ++ (if (xs[k]?).any (fun x => decide (plOf L x ≤ plOf L b)) then [[b, xs.getD k 0]] else [])
theorem backRow_yes {L : List Int} {b x : Int} {xs : List Int} {k : Nat} (hx : xs[k]? = some x) (h : plOf L x ≤ plOf L b) : backRow L b xs (k + 1) = backRow L b xs k ++ [[b, x]] := by
  rw [backRow, List.getD_eq_getElem?_getD, hx]; simp [h]
theorem backRow_no {L : List Int} {b x : Int} {xs : List Int} {k : Nat} (hx : xs[k]? = some x) (h : ¬ plOf L x ≤ plOf L b) : backRow L b xs (k + 1) = backRow L b xs k := by
  rw [backRow, hx]; simp [h]
theorem backRow_len (L : List Int) (b : Int) (xs : List Int) : ∀ k, (backRow L b xs k).length ≤ k
  | 0 => Nat.le_refl _
  | k + 1 => by
    have := backRow_len L b xs k
    rw [backRow, List.length_append]
    split <;> simp <;> omega
theorem backRow_mono (L : List Int) (b : Int) (xs : List Int) : ∀ {j k : Nat}, j ≤ k → (backRow L b xs j).length ≤ (backRow L b xs k).length
  | j, 0, h => by have : j = 0 := by omega
                  subst this; exact Nat.le_refl _
  | j, k + 1, h => by
    by_cases hj : j = k + 1
    · subst hj; exact Nat.le_refl _
    · have := backRow_mono L b xs (j := j) (k := k) (by omega)
      rw [backRow, List.length_append]; omega
theorem backRow_two (L : List Int) (b : Int) (xs : List Int) : ∀ k, ∀ x ∈ backRow L b xs k, x.length = 2
  | 0, x, hx => by simp [backRow] at hx
  | k + 1, x, hx => by
    rw [backRow, List.mem_append] at hx
    rcases hx with hx | hx
    · exact backRow_two L b xs k x hx
    · split at hx
      · simp at hx; subst hx; rfl
      · simp at hx
def backAll (g : List (List Int)) (L : List Int) (b : Int) : List (List Int) := backRow L b (sortU (g.getD b.toNat [])) (sortU (g.getD b.toNat [])).length
/-- The reference's way: block by block. -/
def backsTo (g : List (List Int)) (L : List Int) : Nat → List (List Int)
  | 0 => []
  | b + 1 => backsTo g L b ++ (if ((b : Nat) : Int) ∈ L then backAll g L b else [])
/-- The program's: along the sorted list. -/
def backsBy (g : List (List Int)) (L S : List Int) : Nat → List (List Int)
  | 0 => []
  | j + 1 => backsBy g L S j ++ backAll g L (S.getD j 0)
def backsP (g : List (List Int)) : List (List Int) := if fits g then backsTo g (orderP g) g.length else []
theorem backsBy_mono (g : List (List Int)) (L S : List Int) : ∀ {j k : Nat}, j ≤ k → (backsBy g L S j).length ≤ (backsBy g L S k).length
  | j, 0, h => by have : j = 0 := by omega
                  subst this; exact Nat.le_refl _
  | j, k + 1, h => by
    by_cases hj : j = k + 1
    · subst hj; exact Nat.le_refl _
    · have := backsBy_mono g L S (j := j) (k := k) (by omega)
      rw [backsBy, List.length_append]; omega
theorem backsBy_flat (g : List (List Int)) (L S : List Int) : ∀ j, j ≤ S.length → backsBy g L S j = (S.take j).flatMap (backAll g L)
  | 0, _ => by simp [backsBy]
  | j + 1, h => by
    have hx : S[j]? = some (S.getD j 0) := by rw [List.getD_eq_getElem?_getD, List.getElem?_eq_getElem (by omega)]; rfl
    rw [backsBy, backsBy_flat g L S j (by omega), take_succ_of hx, List.flatMap_append]
    simp
theorem backsTo_flat (g : List (List Int)) (L : List Int) : ∀ b, backsTo g L b = (((List.range b).map (Int.ofNat)).filter (fun v => decide (v ∈ L))).flatMap (backAll g L)
  | 0 => by simp [backsTo]
  | b + 1 => by
    rw [backsTo, backsTo_flat g L b, List.range_succ, List.map_append, List.filter_append, List.flatMap_append]
    by_cases h : ((b : Nat) : Int) ∈ L <;> simp [h]
theorem asc_range (n : Nat) : Asc ((List.range n).map Int.ofNat) := by
  unfold Asc
  rw [List.pairwise_map]
  exact (List.pairwise_lt_range (n := n)).imp (fun h => by simpa using h)
theorem sortU_range {L : List Int} {n : Nat} (h : ∀ z ∈ L, 0 ≤ z ∧ z < n) : sortU L = ((List.range n).map Int.ofNat).filter (fun v => decide (v ∈ L)) := by
  refine sortU_of_asc ((asc_range n).filter _) (fun z => ?_)
  simp only [List.mem_filter, List.mem_map, List.mem_range, decide_eq_true_eq]
  constructor
  · exact fun h => h.2
  · intro hz
    have := h z hz
    exact ⟨⟨z.toNat, by omega, by show ((z.toNat : Nat) : Int) = z; omega⟩, hz⟩
theorem backs_same {g : List (List Int)} {L : List Int} (h : ∀ z ∈ L, 0 ≤ z ∧ z < g.length) : backsBy g L (sortU L) (sortU L).length = backsTo g L g.length := by
  rw [backsBy_flat _ _ _ _ (Nat.le_refl _), List.take_length, backsTo_flat, sortU_range h]
theorem backAll_len (g : List (List Int)) (L : List Int) (b : Nat) : (backAll g L b).length ≤ (g.getD b []).length := by
  unfold backAll
  have h1 := backRow_len L b (sortU (g.getD (b : Int).toNat [])) (sortU (g.getD (b : Int).toNat [])).length
  have h2 := sortU_len (g.getD (b : Int).toNat [])
  rw [Int.toNat_natCast] at h1 h2 ⊢
  omega
theorem backsTo_len (g : List (List Int)) (L : List Int) : ∀ b, b ≤ g.length → (backsTo g L b).length ≤ ((g.take b).map List.length).sum
  | 0, _ => by simp [backsTo]
  | b + 1, h => by
    have h1 := backsTo_len g L b (by omega)
    have hx : g[b]? = some (g.getD b []) := by rw [List.getD_eq_getElem?_getD, List.getElem?_eq_getElem (by omega)]; rfl
    have h2 := backAll_len g L b
    rw [backsTo, take_succ_of hx, List.map_append, List.sum_append, List.length_append]
    have h3 : ([g.getD b []].map List.length).sum = (g.getD b []).length := by simp
    rw [h3]
    split
    · omega
    · rw [List.length_nil]; omega
theorem sum_take_le (g : List (List Int)) (b : Nat) : ((g.take b).map List.length).sum ≤ (g.map List.length).sum := by
  have h := List.take_append_drop b g
  have h2 : (g.map List.length).sum = ((g.take b).map List.length).sum + ((g.drop b).map List.length).sum := by rw [← List.sum_append, ← List.map_append, h]
  omega
theorem backsTo_small {g : List (List Int)} (hs : g.length + (g.map List.length).sum ≤ 1048576) (L : List Int) {b : Nat} (h : b ≤ g.length) : (backsTo g L b).length ≤ 1048576 := by
  have h1 := backsTo_len g L b h
  have h2 := sum_take_le g b
  omega
/-- Within a block. -/
theorem backsTo_in {g : List (List Int)} (hs : g.length + (g.map List.length).sum ≤ 1048576) (L : List Int) {b : Nat} (h : b < g.length) (hb : (b : Int) ∈ L) {k : Nat} (hk : k ≤ (sortU (g.getD b [])).length) :
    (backsTo g L b ++ backRow L b (sortU (g.getD b [])) k).length ≤ 1048576 := by
  have h1 := backsTo_small hs L (b := b + 1) h
  rw [backsTo, if_pos hb, List.length_append] at h1
  have h2 := backRow_mono L b (sortU (g.getD b [])) hk
  unfold backAll at h1
  rw [Int.toNat_natCast] at h1
  rw [List.length_append]
  omega
theorem backsBy_in {g : List (List Int)} (hs : g.length + (g.map List.length).sum ≤ 1048576) {L : List Int} (hL : ∀ z ∈ L, 0 ≤ z ∧ z < g.length) {j : Nat} (hj : j < (sortU L).length) {b : Int} (hb : (sortU L)[j]? = some b)
    {k : Nat} (hk : k ≤ (sortU (g.getD b.toNat [])).length) : (backsBy g L (sortU L) j ++ backRow L b (sortU (g.getD b.toNat [])) k).length ≤ 1048576 := by
  have h1 := backsBy_mono g L (sortU L) (j := j + 1) (k := (sortU L).length) hj
  have h3 := backsTo_small hs L (b := g.length) (Nat.le_refl _)
  rw [backs_same hL] at h1
  rw [backsBy, List.length_append, List.getD_eq_getElem?_getD, hb] at h1
  have h2 := backRow_mono L b (sortU (g.getD b.toNat [])) hk
  unfold backAll at h1
  simp only [Option.getD_some] at h1
  rw [List.length_append]
  omega
theorem backsTo_two (g : List (List Int)) (L : List Int) : ∀ b, ∀ x ∈ backsTo g L b, x.length = 2
  | 0, x, hx => by simp [backsTo] at hx
  | b + 1, x, hx => by
    rw [backsTo, List.mem_append] at hx
    rcases hx with hx | hx
    · exact backsTo_two g L b x hx
    · split at hx
      · exact backRow_two _ _ _ _ x hx
      · simp at hx
theorem backsP_two (g : List (List Int)) : ∀ x ∈ backsP g, x.length = 2 := by
  intro x hx
  unfold backsP at hx
  split at hx
  · exact backsTo_two _ _ _ x hx
  · simp at hx
theorem backsP_small {g : List (List Int)} (hs : g.length + (g.map List.length).sum ≤ 1048576) : (backsP g).length ≤ 1048576 := by
  unfold backsP
  split
  · exact backsTo_small hs _ (Nat.le_refl _)
  · simp
theorem orderP_lt {g : List (List Int)} {z : Int} (h : z ∈ orderP g) : 0 ≤ z ∧ z < g.length := by
  unfold orderP at h
  split at h
  · rename_i hf; exact leftOf_lt (fits_iff.1 hf) (List.mem_reverse.1 h)
  · simp at h
theorem orderP_next {g : List (List Int)} {b x : Int} (h : b ∈ orderP g) (hx : x ∈ g.getD b.toNat []) : x ∈ orderP g := by
  unfold orderP at h ⊢
  split at h
  · rename_i hf; rw [if_pos hf]; exact List.mem_reverse.2 (leftOf_next (fits_iff.1 hf) (List.mem_reverse.1 h) hx)
  · simp at h
theorem backsTo_nil (g : List (List Int)) : ∀ b, backsTo g [] b = []
  | 0 => rfl
  | b + 1 => by rw [backsTo, backsTo_nil g b]; simp
theorem backsP_to (g : List (List Int)) : backsP g = backsTo g (orderP g) g.length := by
  unfold backsP
  split
  · rfl
  · rename_i hf
    rw [orderP, if_neg hf, backsTo_nil]
theorem backsP_by (g : List (List Int)) : backsP g = backsBy g (orderP g) (sortU (orderP g)) (sortU (orderP g)).length := by
  rw [backsP_to, backs_same (fun z hz => orderP_lt hz)]

/-- A row of numbers stands while a row of slices grows. -/
theorem GathM.stands {wr w' : World} {lo base : Nat} {a a2 : Option Addr} {n c m c2 : Nat} {rows : List Hd} {o1 o2 : Obj} {xs : List Value} (hm : MatMine wr lo a n c rows) (hg : ((wr.alloc o1).alloc o2).grownBy w' (Value.slice a n c).ownBlock)
    (h : wr.ownsRow base 3 1 (.slice a2 m c2) m xs) : w'.ownsRow base 3 1 (.slice a2 m c2) m xs := by
  rcases h.2 with h0 | ⟨g, cap, cur, e, hbg, hgg, rest⟩
  · exact ⟨h.1, .inl h0⟩
  · exact ⟨h.1, .inr ⟨g, cap, cur, e, hbg, GathM.kept hm hg hgg (by decide), rest⟩⟩

theorem row_in {g : List (List Int)} (hg : Fits g) (n : Nat) (x : Int) (hx : x ∈ g.getD n []) : 0 ≤ x ∧ x < g.length := row_nonneg hg n x hx

end Go.Proofs.Ytonlidgmfmgcmaa
