
/-
  Folding (plain): what is folded is no larger, and has the same value.
-/
import Derived.Test.YtccfbnhlhjlmgaaDoorPe2
namespace Go.Proofs.YtccfbnhlhjlmgaaDoor
open Go.RowKit
set_option linter.unusedVariables false

def isNumB (e : ExprD) (n : Int) : Bool := e.op == 1 && e.n == n
/-- A part that may end without a value, whatever its variables are. -/
def unsafeP (e : ExprD) : Bool := (e.op == 12) || ((e.op == 13) || (((e.op == 6) || (e.op == 7)) && !(((e.kids.getD 1 default).op == 1) && !((e.kids.getD 1 default).n == 0))))
def safeD (x : ExprD) : Bool := (sizeD nameD 6 x).isSome && !anyE unsafeP 6 x
def kA (e : ExprD) : ExprD := e.kids.getD 0 default
def kB (e : ExprD) : ExprD := e.kids.getD (e.kids.length - 1) default
def foldNum (e : ExprD) : Option Int := if (kA e).op = 1 ∧ (kB e).op = 1 then arithD e.op (kA e).n (kB e).n else none
def partG (e : ExprD) : ExprD :=
  if e.op = 11 then (if (kA e).op = 11 ∧ ((kA e).kids.getD 0 default).op = 11 then (kA e).kids.getD 0 default else e)
  else if e.op = 10 then (if isNumB (kA e) 0 = true then numE 0 else e)
  else if e.op = 3 then (if isNumB (kB e) 0 = true then kA e else if isNumB (kA e) 0 = true then kB e else e)
  else if e.op = 4 then (if isNumB (kB e) 0 = true then kA e else e)
  else if e.op = 5 then (if isNumB (kB e) 1 = true then kA e else if isNumB (kA e) 1 = true then kB e else if ((isNumB (kB e) 0 && safeD (kA e)) || (isNumB (kA e) 0 && safeD (kB e))) = true then numE 0 else e)
  else if e.op = 6 then (if isNumB (kB e) 1 = true then kA e else e)
  else e
/-- A part whose Kids have been folded, folded. -/
def partF (e : ExprD) : ExprD :=
  if e.kids.length = 0 ∨ e.op = 13 ∨ e.op = 12 then e else
  match foldNum e with
  | some n => numE n
  | none => partG e
def foldD : Nat → ExprD → ExprD
  | 0, e => e
  | d + 1, e => partF (.mk e.op e.n e.name (e.kids.map (foldD d)))

theorem head_num {n : Int} {name : ByteArray} {k : Nat} (h : headB nameD 1 n name k = true) : (0 ≤ n ∧ n ≤ 255) ∧ name = ⟨#[]⟩ ∧ k = 0 := by
  rw [headB, if_pos rfl] at h
  simp only [Bool.and_eq_true, beq_iff_eq, inE, decide_eq_true_eq] at h
  refine ⟨h.1, ?_, h.2.2⟩
  apply eq_of_toListE
  have h1 := h.2.1
  rw [List.isEmpty_iff] at h1
  rw [h1, ByteArray.toList_eq]
theorem head_not {n : Int} {name : ByteArray} {k : Nat} (h : headB nameD 11 n name k = true) : k = 1 := by
  have h : (n == 0 && (name.toList.isEmpty && k == 1)) = true := h
  simp only [Bool.and_eq_true, beq_iff_eq] at h
  exact h.2.2
theorem isNumB_of {e : ExprD} {n : Int} (h : isNumB e n = true) : e.op = 1 ∧ e.n = n := by
  simpa [isNumB] using h
theorem ite_is {P : ExprD → Prop} (c : Prop) [Decidable c] (a b : ExprD) (ha : c → P a) (hb : ¬ c → P b) : P (if c then a else b) := by
  by_cases h : c
  · rw [if_pos h]; exact ha h
  · rw [if_neg h]; exact hb h
theorem partG_is {e : ExprD} {P : ExprD → Prop} (h0 : P e) (hN : P (numE 0)) (hA : P (kA e)) (hB : P (kB e)) (hJ : (kA e).op = 11 → P ((kA e).kids.getD 0 default)) : P (partG e) := by
  unfold partG
  refine ite_is _ _ _ (fun _ => ite_is _ _ _ (fun h => hJ h.1) (fun _ => h0)) (fun _ => ?_)
  refine ite_is _ _ _ (fun _ => ite_is _ _ _ (fun _ => hN) (fun _ => h0)) (fun _ => ?_)
  refine ite_is _ _ _ (fun _ => ite_is _ _ _ (fun _ => hA) (fun _ => ite_is _ _ _ (fun _ => hB) (fun _ => h0))) (fun _ => ?_)
  refine ite_is _ _ _ (fun _ => ite_is _ _ _ (fun _ => hA) (fun _ => h0)) (fun _ => ?_)
  refine ite_is _ _ _ (fun _ => ite_is _ _ _ (fun _ => hA) (fun _ => ite_is _ _ _ (fun _ => hB) (fun _ => ite_is _ _ _ (fun _ => hN) (fun _ => h0)))) (fun _ => ?_)
  exact ite_is _ _ _ (fun _ => ite_is _ _ _ (fun _ => hA) (fun _ => h0)) (fun _ => h0)
/-- What becomes of a part. -/
theorem partF_cases {m : Nat} {e : ExprD} (h : sizeD nameD (m + 1) e ≠ none) :
    partF e = e ∨ (∃ n, partF e = numE n ∧ 0 ≤ n ∧ n ≤ 255) ∨ (∃ k ∈ e.kids, partF e = k) ∨ (∃ k ∈ e.kids, ∃ j ∈ k.kids, partF e = j) := by
  obtain ⟨m', hm, hh, hk⟩ := size_parts h
  cases hm
  by_cases h0 : e.kids.length = 0 ∨ e.op = 13 ∨ e.op = 12
  · exact .inl (by rw [partF, if_pos h0])
  have hl : 0 < e.kids.length := by omega
  have mA : kA e ∈ e.kids := (kid_get hl).2
  have mB : kB e ∈ e.kids := (kid_get (show e.kids.length - 1 < e.kids.length by omega)).2
  have hnum : ∀ k ∈ e.kids, k.op = 1 → 0 ≤ k.n ∧ k.n ≤ 255 := fun k hk1 h1 => by
    obtain ⟨_, _, hh2, _⟩ := size_parts (hk k hk1)
    rw [h1] at hh2
    exact (head_num hh2).1
  have hF : partF e = (match foldNum e with | some n => numE n | none => partG e) := by rw [partF, if_neg h0]
  cases hf : foldNum e with
  | some n =>
    rw [hf] at hF
    refine .inr (.inl ⟨n, hF, ?_⟩)
    unfold foldNum at hf
    split at hf
    · rename_i h1
      exact arithD_range (hnum _ mA h1.1) (hnum _ mB h1.2) hf
    · cases hf
  | none =>
    rw [hf] at hF
    have hF : partF e = partG e := hF
    rw [hF]
    refine partG_is (P := fun r => r = e ∨ (∃ n, r = numE n ∧ 0 ≤ n ∧ n ≤ 255) ∨ (∃ k ∈ e.kids, r = k) ∨ (∃ k ∈ e.kids, ∃ j ∈ k.kids, r = j)) (.inl rfl) (.inr (.inl ⟨0, rfl, by omega⟩)) (.inr (.inr (.inl ⟨_, mA, rfl⟩))) (.inr (.inr (.inl ⟨_, mB, rfl⟩))) (fun h1 => ?_)
    obtain ⟨_, _, hh2, _⟩ := size_parts (hk _ mA)
    rw [h1] at hh2
    exact .inr (.inr (.inr ⟨_, mA, _, (kid_get (show 0 < (kA e).kids.length by have := head_not hh2; omega)).2, rfl⟩))

/-! ### sizes -/
theorem foldSz_ge {f : ExprD → Option (Nat × Nat)} : ∀ (ks : List ExprD) (p d : Nat) (q : Nat × Nat), foldSz f ks p d = some q → p ≤ q.1 ∧ d ≤ q.2
  | [], p, d, q, h => by
    rw [foldSz] at h
    split at h
    · cases h; exact ⟨Nat.le_refl _, Nat.le_refl _⟩
    · cases h
  | k :: ks, p, d, q, h => by
    rw [foldSz] at h
    split at h
    · cases h
    · have := foldSz_ge ks _ _ q h
      omega
theorem foldSz_kid {f : ExprD → Option (Nat × Nat)} : ∀ (ks : List ExprD) (p d : Nat) (q : Nat × Nat), foldSz f ks p d = some q → ∀ k ∈ ks, ∃ r, f k = some r ∧ r.1 + p ≤ q.1 ∧ r.2 + 1 ≤ q.2
  | [], _, _, _, _, k, hk => by simp at hk
  | x :: ks, p, d, q, h, k, hk => by
    rw [foldSz] at h
    cases hx : f x with
    | none => rw [hx] at h; cases h
    | some r =>
      rw [hx] at h
      have hge := foldSz_ge _ _ _ _ h
      rcases List.mem_cons.1 hk with rfl | hk
      · exact ⟨r, hx, by omega, by first | omega | (simp only at hge; omega)⟩
      · obtain ⟨r', h1, h2, h3⟩ := foldSz_kid ks _ _ q h k hk
        exact ⟨r', h1, by first | omega | (simp only at h2; omega), h3⟩
theorem foldSz_le {f : ExprD → Option (Nat × Nat)} {g : ExprD → ExprD} : ∀ (ks : List ExprD) (p d p' d' : Nat) (q : Nat × Nat), p' ≤ p → d' ≤ d → (∀ k ∈ ks, ∀ r, f k = some r → ∃ r', f (g k) = some r' ∧ r'.1 ≤ r.1 ∧ r'.2 ≤ r.2) →
    foldSz f ks p d = some q → ∃ q', foldSz f (ks.map g) p' d' = some q' ∧ q'.1 ≤ q.1 ∧ q'.2 ≤ q.2
  | [], p, d, p', d', q, hp, hd, _, h => by
    rw [foldSz] at h
    split at h
    · cases h
      refine ⟨(p', d'), ?_, hp, hd⟩
      show (if p' ≤ 30 then some (p', d') else none) = _
      rw [if_pos (by omega)]
    · cases h
  | k :: ks, p, d, p', d', q, hp, hd, hg, h => by
    rw [foldSz] at h
    cases hk : f k with
    | none => rw [hk] at h; cases h
    | some r =>
      rw [hk] at h
      obtain ⟨r', h1, h2, h3⟩ := hg k List.mem_cons_self r hk
      rw [List.map_cons, foldSz, h1]
      exact foldSz_le ks _ _ _ _ q (by omega) (by first | omega | (simp only; omega)) (fun k' h' => hg k' (List.mem_cons_of_mem _ h')) h
theorem foldSz_same {f g : ExprD → Option (Nat × Nat)} : ∀ (ks : List ExprD) (p d : Nat) (q : Nat × Nat), (∀ k ∈ ks, ∀ r, f k = some r → g k = some r) → foldSz f ks p d = some q → foldSz g ks p d = some q
  | [], _, _, _, _, h => h
  | k :: ks, p, d, q, hg, h => by
    rw [foldSz] at h
    cases hk : f k with
    | none => rw [hk] at h; cases h
    | some r =>
      rw [hk] at h
      rw [foldSz, hg k List.mem_cons_self r hk]
      exact foldSz_same ks _ _ q (fun k' h' => hg k' (List.mem_cons_of_mem _ h')) h
theorem sizeD_up : ∀ (m : Nat) (x : ExprD) (q : Nat × Nat), sizeD nameD m x = some q → sizeD nameD (m + 1) x = some q
  | 0, _, _, h => by cases h
  | m + 1, x, q, h => by
    rw [sizeD] at h ⊢
    split at h
    · rename_i hh
      rw [if_pos hh]
      exact foldSz_same _ _ _ _ (fun k _ r hr => sizeD_up m k r hr) h
    · cases h
theorem fold_size : ∀ (m d : Nat) (x : ExprD) (q : Nat × Nat), sizeD nameD m x = some q → ∃ q', sizeD nameD m (foldD d x) = some q' ∧ q'.1 ≤ q.1 ∧ q'.2 ≤ q.2
  | 0, _, _, _, h => by cases h
  | m + 1, 0, _, q, h => ⟨q, h, Nat.le_refl _, Nat.le_refl _⟩
  | m + 1, d + 1, x, q, h => by
    have h0 := h
    rw [sizeD] at h
    split at h
    · rename_i hh
      obtain ⟨q1, h1, h2, h3⟩ := foldSz_le x.kids 1 1 1 1 q (Nat.le_refl _) (Nat.le_refl _) (fun k _ r hr => fold_size m d k r hr) h
      have hy : sizeD nameD (m + 1) (.mk x.op x.n x.name (x.kids.map (foldD d))) = some q1 := by
        show (if headB nameD x.op x.n x.name (x.kids.map (foldD d)).length = true then foldSz (sizeD nameD m) (x.kids.map (foldD d)) 1 1 else none) = _
        rw [List.length_map, if_pos hh]
        exact h1
      have hge := foldSz_ge _ _ _ _ h1
      rw [foldD]
      rcases partF_cases (by rw [hy]; simp) with he | ⟨n, he, hn⟩ | ⟨k, hk, he⟩ | ⟨k, hk, j, hj, he⟩
      · rw [he]; exact ⟨q1, hy, h2, h3⟩
      · rw [he]; exact ⟨(1, 1), numE_size (by simp [inE]; omega) m, by first | omega | (simp only; omega), by first | omega | (simp only; omega)⟩
      · rw [he]
        obtain ⟨r, g1, g2, g3⟩ := foldSz_kid _ _ _ _ h1 k hk
        exact ⟨r, sizeD_up _ _ _ g1, by omega, by omega⟩
      · rw [he]
        obtain ⟨r, g1, g2, g3⟩ := foldSz_kid _ _ _ _ h1 k hk
        cases m with
        | zero => cases g1
        | succ m =>
          have g0 := g1
          rw [sizeD] at g1
          split at g1
          · obtain ⟨r2, k1, k2, k3⟩ := foldSz_kid _ _ _ _ g1 j hj
            exact ⟨r2, sizeD_up _ _ _ (sizeD_up _ _ _ k1), by omega, by omega⟩
          · cases g1
    · cases h
theorem fold_valid {m d : Nat} {x : ExprD} (h : sizeD nameD m x ≠ none) : sizeD nameD m (foldD d x) ≠ none := by
  cases hq : sizeD nameD m x with
  | none => exact absurd hq h
  | some q => obtain ⟨q', h1, _⟩ := fold_size m d x q hq; rw [h1]; simp
theorem mapped_valid {m d : Nat} {x : ExprD} (h : sizeD nameD (m + 1) x ≠ none) : sizeD nameD (m + 1) (.mk x.op x.n x.name (x.kids.map (foldD d))) ≠ none := by
  cases hq : sizeD nameD (m + 1) x with
  | none => exact absurd hq h
  | some q =>
    rw [sizeD] at hq
    split at hq
    · rename_i hh
      obtain ⟨q1, h1, h2, h3⟩ := foldSz_le x.kids 1 1 1 1 q (Nat.le_refl _) (Nat.le_refl _) (fun k _ r hr => fold_size m d k r hr) hq
      show (if headB nameD x.op x.n x.name (x.kids.map (foldD d)).length = true then foldSz (sizeD nameD m) (x.kids.map (foldD d)) 1 1 else none) ≠ _
      rw [List.length_map, if_pos hh, h1]
      simp
    · cases hq
theorem kids_valid {m : Nat} {x : ExprD} (h : sizeD nameD (m + 1) x ≠ none) {k : ExprD} (hk : k ∈ x.kids) : sizeD nameD m k ≠ none := by
  obtain ⟨m', hm, _, h1⟩ := size_parts h
  cases hm
  exact h1 k hk

/-! ### what is asked of the parts -/
theorem anyE_num' {p : ExprD → Bool} (hp : ∀ n, p (numE n) = false) (d : Nat) (n : Int) : anyE p d (numE n) = false := by
  cases d with
  | zero => rfl
  | succ d => show (p (numE n) || false) = false; rw [hp]; rfl
theorem fold_any {p : ExprD → Bool} (hp1 : ∀ n, p (numE n) = false) (hp2 : ∀ (m d : Nat) (x : ExprD), sizeD nameD m x ≠ none → p x = false → p (.mk x.op x.n x.name (x.kids.map (foldD d))) = false) :
    ∀ (m d : Nat) (x : ExprD), sizeD nameD m x ≠ none → m ≤ d → anyE p d x = false → anyE p d (foldD d x) = false
  | 0, _, _, h, _, _ => absurd rfl h
  | m + 1, 0, _, _, h, _ => absurd h (by omega)
  | m + 1, d + 1, x, hs, hd, ha => by
    obtain ⟨h1, h2⟩ := any_partsE ha
    have hk : ∀ k ∈ x.kids, anyE p d (foldD d k) = false := fun k hk => fold_any hp1 hp2 m d k (kids_valid hs hk) (by omega) (h2 k hk)
    have hv := mapped_valid (d := d) hs
    have hy : anyE p (d + 1) (.mk x.op x.n x.name (x.kids.map (foldD d))) = false := by
      show (p (.mk x.op x.n x.name (x.kids.map (foldD d))) || (x.kids.map (foldD d)).any (anyE p d)) = false
      rw [hp2 _ d x hs h1, Bool.false_or, List.any_eq_false]
      intro k hk'
      obtain ⟨k', hk'', rfl⟩ := List.mem_map.1 hk'
      rw [hk k' hk'']; simp
    rw [foldD]
    rcases partF_cases hv with he | ⟨n, he, hn⟩ | ⟨k, hkm, he⟩ | ⟨k, hkm, j, hj, he⟩
    · rw [he]; exact hy
    · rw [he]; exact anyE_num' hp1 _ _
    · rw [he]
      have h3 := (any_partsE hy).2 k hkm
      rw [← anyE_fit (kids_valid hv hkm) (by omega : m ≤ d) (by omega : m ≤ d + 1)]
      exact h3
    · rw [he]
      have h3 := (any_partsE hy).2 k hkm
      have hvk := kids_valid hv hkm
      cases m with
      | zero => exact absurd rfl hvk
      | succ m =>
        cases d with
        | zero => omega
        | succ d =>
          have h4 := (any_partsE h3).2 j hj
          rw [← anyE_fit (kids_valid hvk hj) (by omega : m ≤ d) (by omega : m ≤ d + 1 + 1)]
          exact h4
theorem fold_bad {ns : List ByteArray} {m d : Nat} {x : ExprD} (hs : sizeD nameD m x ≠ none) (hd : m ≤ d) (h : anyE (badP ns) d x = false) : anyE (badP ns) d (foldD d x) = false :=
  fold_any (p := badP ns) (fun _ => rfl) (fun _ _ _ _ h => h) m d x hs hd h
theorem fold_leaf {m d : Nat} {k : ExprD} (hs : sizeD nameD m k ≠ none) (h1 : k.op = 1) : foldD d k = k := by
  obtain ⟨m', _, hh, _⟩ := size_parts hs
  rw [h1] at hh
  have hk : k.kids = [] := List.length_eq_zero_iff.1 (head_num hh).2.2
  cases d with
  | zero => rfl
  | succ d =>
    rw [foldD, hk, List.map_nil, partF, if_pos (.inl rfl)]
    cases k with
    | mk op n name kids => rw [show kids = [] from hk]; rfl
theorem unsafe_two {m : Nat} {x : ExprD} (hs : sizeD nameD m x ≠ none) (h : x.op = 6 ∨ x.op = 7) : x.kids.length = 2 := by
  obtain ⟨m', _, hh, _⟩ := size_parts hs
  rw [headB, if_neg (by omega), if_neg (by omega), if_neg (by omega), if_pos (by rcases h with h | h <;> rw [h] <;> decide)] at hh
  simp only [Bool.and_eq_true, beq_iff_eq] at hh
  exact hh.2.2
theorem fold_safe {m d : Nat} {x : ExprD} (hs : sizeD nameD m x ≠ none) (hd : m ≤ d) (h : anyE unsafeP d x = false) : anyE unsafeP d (foldD d x) = false := by
  refine fold_any (p := unsafeP) (fun _ => rfl) (fun m d x hs h => ?_) m d x hs hd h
  have h : ((x.op == 12) || ((x.op == 13) || (((x.op == 6) || (x.op == 7)) && !(((x.kids.getD 1 default).op == 1) && !((x.kids.getD 1 default).n == 0))))) = false := h
  show ((x.op == 12) || ((x.op == 13) || (((x.op == 6) || (x.op == 7)) && !((((x.kids.map (foldD d)).getD 1 default).op == 1) && !(((x.kids.map (foldD d)).getD 1 default).n == 0))))) = false
  cases h6 : ((x.op == 6) || (x.op == 7)) with
  | false => rw [h6] at h; exact h
  | true =>
    have hop : x.op = 6 ∨ x.op = 7 := by simpa using h6
    have hl := unsafe_two hs hop
    rw [h6] at h
    rw [Bool.or_eq_false_iff, Bool.or_eq_false_iff] at h
    have h3 : ((x.kids.getD 1 default).op == 1) = true ∧ ((x.kids.getD 1 default).n == 0) = false := by
      have := h.2.2
      simpa using this
    have hk : sizeD nameD (m - 1) (x.kids.getD 1 default) ≠ none := by
      obtain ⟨m', hm, _, hk⟩ := size_parts hs
      rw [hm, Nat.add_sub_cancel]
      exact hk _ (kid_get (by omega)).2
    rw [getD_map (by omega), fold_leaf hk (by simpa using h3.1), h.1, h.2.1, h3.1, h3.2]
    rfl

/-! ### values -/
theorem evalV_fit {ns : List ByteArray} {G : ByteArray → Option Int} : ∀ {m d d' : Nat} {x : ExprD}, sizeD nameD m x ≠ none → m ≤ d → m ≤ d' → anyE (badP ns) d x = false → evalV G d x = evalV G d' x
  | 0, _, _, _, h, _, _, _ => absurd rfl h
  | m + 1, 0, _, _, _, h, _, _ => absurd h (by omega)
  | m + 1, _, 0, _, _, _, h, _ => absurd h (by omega)
  | m + 1, d + 1, d' + 1, x, hs, h, h', hb => by
    obtain ⟨m', hm, hh, hk⟩ := size_parts hs
    cases hm
    obtain ⟨hn, hnk⟩ := any_partsE hb
    have hkid : ∀ i, i < x.kids.length → evalV G d (x.kids.getD i default) = evalV G d' (x.kids.getD i default) := fun i hi => evalV_fit (hk _ (kid_get hi).2) (by omega) (by omega) (hnk _ (kid_get hi).2)
    rw [evalV, evalV]
    rcases head_casesV hh (show badP ns (.mk x.op x.n x.name x.kids) = false from hn) with ⟨h1, h2, h3⟩ | ⟨h1, h2⟩ | ⟨⟨h1, hn2, -, -⟩, h10, hl, h2⟩ | ⟨h1, h2⟩ | ⟨h1, h2⟩
    · rw [if_pos h1, if_pos h1]
    · rw [if_neg (show ¬ x.op = 1 by omega), if_pos h1, if_neg (show ¬ x.op = 1 by omega), if_pos h1]
    · rw [if_neg h1, if_neg hn2, if_neg h10, if_neg h1, if_neg hn2, if_neg h10, hkid 0 (by omega), hkid 1 (by omega)]
    · rw [if_neg (show ¬ x.op = 1 by omega), if_neg (show ¬ x.op = 2 by omega), if_pos h1, if_neg (show ¬ x.op = 1 by omega), if_neg (show ¬ x.op = 2 by omega), if_pos h1, hkid 0 (by omega), hkid 1 (by omega)]
    · rw [if_neg (show ¬ x.op = 1 by omega), if_neg (show ¬ x.op = 2 by omega), if_neg (show ¬ x.op = 10 by omega), if_neg (show ¬ x.op = 1 by omega), if_neg (show ¬ x.op = 2 by omega), if_neg (show ¬ x.op = 10 by omega), hkid 0 (by omega), if_neg (by omega), if_neg (by omega)]
theorem safe_eval {ns : List ByteArray} {G : ByteArray → Option Int} : ∀ {m d : Nat} {x : ExprD}, sizeD nameD m x ≠ none → m ≤ d → anyE (badP ns) d x = false → anyE unsafeP d x = false → ∃ v, evalV G d x = some v
  | 0, _, _, h, _, _, _ => absurd rfl h
  | m + 1, 0, _, _, h, _, _ => absurd h (by omega)
  | m + 1, d + 1, x, hs, hd, hb, hu => by
    obtain ⟨m', hm, hh, hk⟩ := size_parts hs
    cases hm
    obtain ⟨hn, hnk⟩ := any_partsE hb
    obtain ⟨hu1, huk⟩ := any_partsE hu
    have hkid : ∀ i, i < x.kids.length → ∃ v, evalV G d (x.kids.getD i default) = some v := fun i hi => safe_eval (hk _ (kid_get hi).2) (by omega) (hnk _ (kid_get hi).2) (huk _ (kid_get hi).2)
    rw [evalV]
    rcases head_casesV hh (show badP ns (.mk x.op x.n x.name x.kids) = false from hn) with ⟨h1, h2, h3⟩ | ⟨h1, h2⟩ | ⟨⟨h1, hn2, -, -⟩, h10, hl, h2⟩ | ⟨h1, h2⟩ | ⟨h1, h2⟩
    · rw [if_pos h1]; exact ⟨_, rfl⟩
    · rw [if_neg (show ¬ x.op = 1 by omega), if_pos h1]; exact ⟨_, rfl⟩
    · rw [if_neg h1, if_neg hn2, if_neg h10]
      obtain ⟨a, ha⟩ := hkid 0 (by omega)
      obtain ⟨b, hb'⟩ := hkid 1 (by omega)
      rw [ha, if_pos (by omega), hb']
      show ∃ v, arithD x.op a b = some v
      have h0 : ∀ (h6 : x.op = 6 ∨ x.op = 7), b ≠ 0 := fun h6 => by
        have h : ((x.op == 12) || ((x.op == 13) || (((x.op == 6) || (x.op == 7)) && !(((x.kids.getD 1 default).op == 1) && !((x.kids.getD 1 default).n == 0))))) = false := hu1
        have h67 : ((x.op == 6) || (x.op == 7)) = true := by simpa using h6
        rw [h67, Bool.or_eq_false_iff, Bool.or_eq_false_iff] at h
        have h3 : (x.kids.getD 1 default).op = 1 ∧ (x.kids.getD 1 default).n ≠ 0 := by
          have := h.2.2
          simpa using this
        cases d with
        | zero => cases ha
        | succ d =>
          rw [evalV, if_pos h3.1] at hb'
          cases hb'
          exact h3.2
      unfold arithD
      split
      · exact ⟨_, rfl⟩
      split
      · exact ⟨_, rfl⟩
      split
      · exact ⟨_, rfl⟩
      split
      · rename_i h67
        rw [if_neg (h0 h67)]
        split <;> exact ⟨_, rfl⟩
      split
      · exact ⟨_, rfl⟩
      split
      · exact ⟨_, rfl⟩
      first | exact ⟨_, rfl⟩ | (split <;> exact ⟨_, rfl⟩)
    · rw [if_neg (show ¬ x.op = 1 by omega), if_neg (show ¬ x.op = 2 by omega), if_pos h1]
      obtain ⟨a, ha⟩ := hkid 0 (by omega)
      obtain ⟨b, hb'⟩ := hkid 1 (by omega)
      rw [ha, hb']
      show ∃ v, (if a = 0 then some 0 else some (truthI (!(b == 0)))) = some v
      split <;> exact ⟨_, rfl⟩
    · rw [if_neg (show ¬ x.op = 1 by omega), if_neg (show ¬ x.op = 2 by omega), if_neg (show ¬ x.op = 10 by omega)]
      obtain ⟨a, ha⟩ := hkid 0 (by omega)
      rw [ha, if_neg (by omega), h1]
      exact ⟨_, rfl⟩

end Go.Proofs.YtccfbnhlhjlmgaaDoor
