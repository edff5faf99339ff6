/-
  Plain law: how many moves ordering takes: as many as there are, and one more at most for each ring of them.
-/
import Derived.Test.YthadaohnanpmiaaOrdSound
namespace Go.Proofs.Ythadaohnanpmiaa
open Go.RowKit

/-- What moves into a register. -/
def nxt (left : List (Int × Int)) (x : Int) : Option Int := (left.find? (fun m => m.1 == x)).map Prod.snd
def walkN (left : List (Int × Int)) : Nat → Int → Option Int
  | 0, x => some x
  | k + 1, x => (nxt left x).bind (walkN left k)
theorem nxt_mem {left : List (Int × Int)} {x y : Int} (h : nxt left x = some y) : (x, y) ∈ left := by
  unfold nxt at h
  obtain ⟨m, hm, rfl⟩ := Option.map_eq_some_iff.1 h
  have h1 := List.find?_some hm
  have h2 := List.mem_of_find?_eq_some hm
  simp at h1
  subst h1
  exact h2
theorem nodup_fst {left : List (Int × Int)} (hn : (left.map Prod.fst).Nodup) {x y y' : Int} (h : (x, y) ∈ left) (h' : (x, y') ∈ left) : y = y' := by
  induction left with
  | nil => cases h
  | cons m l ih =>
    rw [List.map_cons, List.nodup_cons] at hn
    rcases List.mem_cons.1 h with h1 | h1
    · rcases List.mem_cons.1 h' with h2 | h2
      · rw [← h1] at h2; exact (Prod.mk.inj h2).2.symm
      · exact absurd (List.mem_map.2 ⟨_, h2, by rw [← h1]⟩) hn.1
    · rcases List.mem_cons.1 h' with h2 | h2
      · exact absurd (List.mem_map.2 ⟨_, h1, by rw [← h2]⟩) hn.1
      · exact ih hn.2 h1 h2
theorem nxt_of {left : List (Int × Int)} (hn : (left.map Prod.fst).Nodup) {x y : Int} (h : (x, y) ∈ left) : nxt left x = some y := by
  cases he : nxt left x with
  | some z => rw [nodup_fst hn (nxt_mem he) h]
  | none =>
    unfold nxt at he
    rw [Option.map_eq_none_iff, List.find?_eq_none] at he
    exact absurd (by simp) (he _ h)
theorem walkN_add (left : List (Int × Int)) : ∀ (i j : Nat) (x : Int), walkN left (i + j) x = (walkN left i x).bind (walkN left j)
  | 0, j, x => by rw [Nat.zero_add]; rfl
  | i + 1, j, x => by
    rw [show i + 1 + j = (i + j) + 1 by omega]
    show (nxt left x).bind (walkN left (i + j)) = ((nxt left x).bind (walkN left i)).bind (walkN left j)
    cases nxt left x with
    | none => rfl
    | some y => exact walkN_add left i j y
theorem walkN_pre {left : List (Int × Int)} {k : Nat} {x y : Int} (h : walkN left k x = some y) {i : Nat} (hi : i ≤ k) : ∃ z, walkN left i x = some z ∧ walkN left (k - i) z = some y := by
  rw [show k = i + (k - i) by omega, walkN_add] at h
  cases hz : walkN left i x with
  | none => rw [hz] at h; cases h
  | some z => rw [hz] at h; exact ⟨z, rfl, h⟩
theorem walkN_mono {l l' : List (Int × Int)} (h : ∀ x y, nxt l' x = some y → nxt l x = some y) : ∀ (k : Nat) (x y : Int), walkN l' k x = some y → walkN l k x = some y
  | 0, x, y, hw => hw
  | k + 1, x, y, hw => by
    change (nxt l' x).bind (walkN l' k) = some y at hw
    show (nxt l x).bind (walkN l k) = some y
    cases hz : nxt l' x with
    | none => rw [hz] at hw; cases hw
    | some z =>
      rw [hz] at hw
      rw [h x z hz]
      exact walkN_mono h k z y hw

/-- A move whose register is the least one of a ring. -/
def Leader (left : List (Int × Int)) (m : Int × Int) : Prop := ∃ k, walkN left k m.2 = some m.1 ∧ ∀ i, i ≤ k → ∀ x, walkN left i m.2 = some x → m.1 ≤ x
theorem leader_mono {l l' : List (Int × Int)} (h : ∀ x y, nxt l' x = some y → nxt l x = some y) {m : Int × Int} (hm : Leader l' m) : Leader l m := by
  obtain ⟨k, hk, hle⟩ := hm
  refine ⟨k, walkN_mono h k _ _ hk, fun i hi x hx => ?_⟩
  obtain ⟨z, hz, _⟩ := walkN_pre hk hi
  rw [walkN_mono h i _ _ hz] at hx
  cases hx
  exact hle i hi _ hz

open Classical in
noncomputable def rings (left : List (Int × Int)) : Nat := left.countP (fun m => decide (Leader left m))

/-- A move that goes out by itself opens no ring. -/
theorem rings_erase {left : List (Int × Int)} (hn : (left.map Prod.fst).Nodup) (k : Nat) : rings (left.eraseIdx k) ≤ rings left := by
  classical
  have hn' : ((left.eraseIdx k).map Prod.fst).Nodup := by
    have e3 : (left.eraseIdx k).map Prod.fst = (left.map Prod.fst).eraseIdx k := by
      rw [List.eraseIdx_eq_take_drop_succ, List.eraseIdx_eq_take_drop_succ, List.map_append, List.map_take, List.map_drop]
    rw [e3]
    exact hn.eraseIdx k
  have hsub : ∀ x y, nxt (left.eraseIdx k) x = some y → nxt left x = some y := fun x y h => nxt_of hn (List.mem_of_mem_eraseIdx (nxt_mem h))
  unfold rings
  refine Nat.le_trans (List.countP_mono_left (q := fun m => decide (Leader left m)) (fun m _ hm => ?_)) (List.Sublist.countP_le (List.eraseIdx_sublist left k))
  simp only [decide_eq_true_eq] at hm ⊢
  exact leader_mono hsub hm

/-- With no move that goes out by itself, each register moved from is moved to, and each once. -/
theorem closed_of_none {left : List (Int × Int)} (hn : (left.map Prod.fst).Nodup) (hf : freeAt left = none) :
    (∀ x ∈ left.map Prod.snd, x ∈ left.map Prod.fst) ∧ ∀ x x' y, (x, y) ∈ left → (x', y) ∈ left → x = x' := by
  have hnf := freeAt_none hf
  have hsub : ∀ x ∈ left.map Prod.fst, x ∈ left.map Prod.snd := by
    intro x hx
    obtain ⟨m, hm, rfl⟩ := List.mem_map.1 hx
    obtain ⟨o, ho, he⟩ := not_free (hnf m hm)
    exact List.mem_map.2 ⟨o, ho, he⟩
  refine ⟨covered hn hsub (by simp), fun x x' y h h' => ?_⟩
  refine Classical.byContradiction (fun hne => ?_)
  -- without (x, y) the moves would still come from all registers moved to
  have h1 : ∀ z ∈ left.map Prod.fst, z ∈ (left.erase (x, y)).map Prod.snd := by
    intro z hz
    obtain ⟨o, ho, he⟩ := List.mem_map.1 (hsub z hz)
    by_cases ho2 : o = (x, y)
    · subst ho2
      refine List.mem_map.2 ⟨(x', y), (List.mem_erase_of_ne ?_).2 h', he⟩
      intro e
      exact hne (Prod.mk.inj e).1.symm
    · exact List.mem_map.2 ⟨o, (List.mem_erase_of_ne ho2).2 ho, he⟩
  have h2 := hn.length_le_of_subset h1
  rw [List.length_map, List.length_map, List.length_erase_of_mem h] at h2
  have := List.length_pos_of_mem h
  omega

/-- Some ring goes through the register, and has a leader. -/
theorem leader_on {left : List (Int × Int)} (hn : (left.map Prod.fst).Nodup) (hf : freeAt left = none) {m0 : Int × Int} (hm0 : m0 ∈ left) :
    ∃ l ∈ left, Leader left l ∧ ∃ i, walkN left i l.2 = some m0.1 := by
  obtain ⟨hcl, hinj⟩ := closed_of_none hn hf
  have htot : ∀ i x, x ∈ left.map Prod.fst → ∃ y, walkN left i x = some y ∧ y ∈ left.map Prod.fst := by
    intro i
    induction i with
    | zero => intro x hx; exact ⟨x, rfl, hx⟩
    | succ i ih =>
      intro x hx
      obtain ⟨m, hm, rfl⟩ := List.mem_map.1 hx
      obtain ⟨y, hy, hy2⟩ := ih m.2 (hcl _ (List.mem_map.2 ⟨m, hm, rfl⟩))
      refine ⟨y, ?_, hy2⟩
      show (nxt left m.1).bind (walkN left i) = some y
      rw [nxt_of hn (show (m.1, m.2) ∈ left from hm)]
      exact hy
  have hr : m0.1 ∈ left.map Prod.fst := List.mem_map.2 ⟨m0, hm0, rfl⟩
  let g : Nat → Int := fun i => Classical.choose (htot i m0.1 hr)
  have hg : ∀ i, walkN left i m0.1 = some (g i) := fun i => (Classical.choose_spec (htot i m0.1 hr)).1
  have hgD : ∀ i, g i ∈ left.map Prod.fst := fun i => (Classical.choose_spec (htot i m0.1 hr)).2
  have hg0 : g 0 = m0.1 := (Option.some.inj (hg 0)).symm
  have hgs : ∀ i, (g i, g (i + 1)) ∈ left := by
    intro i
    have h1 := hg (i + 1)
    rw [walkN_add, hg i] at h1
    change (nxt left (g i)).bind (walkN left 0) = some (g (i + 1)) at h1
    cases hz : nxt left (g i) with
    | none => rw [hz] at h1; cases h1
    | some z =>
      rw [hz] at h1
      have : z = g (i + 1) := Option.some.inj h1
      rw [← this]
      exact nxt_mem hz
  have hgw : ∀ i j, walkN left j (g i) = some (g (i + j)) := by
    intro i j
    have h1 := hg (i + j)
    rw [walkN_add, hg i] at h1
    exact h1
  -- two of the first are the same
  have hpig : ∃ i j, i < j ∧ g i = g j := by
    refine Classical.byContradiction (fun hc => ?_)
    have hnd : ((List.range (left.length + 1)).map g).Nodup := by
      rw [List.nodup_iff_pairwise_ne, List.pairwise_map]
      refine List.Pairwise.imp_of_mem ?_ (List.pairwise_lt_range (n := left.length + 1))
      intro i j _ _ hlt he
      exact hc ⟨i, j, hlt, he⟩
    have h1 := hnd.length_le_of_subset (l₂ := left.map Prod.fst) (by
      intro x hx
      obtain ⟨i, _, rfl⟩ := List.mem_map.1 hx
      exact hgD i)
    simp at h1
    omega
  obtain ⟨i, j, hij, he⟩ := hpig
  have hback : ∀ i j, i < j → g i = g j → g 0 = g (j - i) := by
    intro i
    induction i with
    | zero => intro j _ h; simpa using h
    | succ i ih =>
      intro j hj h
      obtain ⟨j', rfl⟩ : ∃ j', j = j' + 1 := ⟨j - 1, by omega⟩
      have h1 := hinj (g i) (g j') (g (i + 1)) (hgs i) (by rw [h]; exact hgs j')
      have h2 := ih j' (by omega) h1
      rw [h2]
      congr 1
      omega
  have hper0 := hback i j hij he
  obtain ⟨p, hp⟩ : ∃ p, p = j - i := ⟨_, rfl⟩
  rw [← hp] at hper0
  have hpos : 0 < p := by omega
  have hper : ∀ q, g (p + q) = g q := by
    intro q
    have h1 := hgw p q
    rw [← hper0, hgw 0 q, Nat.zero_add] at h1
    exact (Option.some.inj h1).symm
  -- the least
  have hmin : ∀ n, 0 < n → ∃ t, t < n ∧ ∀ q, q < n → g t ≤ g q := by
    intro n
    induction n with
    | zero => intro h; omega
    | succ n ih =>
      intro _
      by_cases hn0 : n = 0
      · subst hn0
        refine ⟨0, by omega, fun q hq => ?_⟩
        have h0 : q = 0 := by omega
        subst h0
        exact Int.le_refl _
      · obtain ⟨t, ht, hle⟩ := ih (by omega)
        by_cases hlt : g t ≤ g n
        · refine ⟨t, by omega, fun q hq => ?_⟩
          by_cases hqn : q = n
          · subst hqn; exact hlt
          · exact hle q (by omega)
        · refine ⟨n, by omega, fun q hq => ?_⟩
          by_cases hqn : q = n
          · subst hqn; exact Int.le_refl _
          · have := hle q (by omega); omega
  obtain ⟨t, ht, hle⟩ := hmin p hpos
  have hall : ∀ q, g t ≤ g q := by
    intro q
    induction q using Nat.strongRecOn with
    | _ q ih =>
      by_cases hq : q < p
      · exact hle q hq
      · have h1 := hper (q - p)
        rw [show p + (q - p) = q by omega] at h1
        rw [h1]
        exact ih (q - p) (by omega)
  refine ⟨(g t, g (t + 1)), hgs t, ⟨p - 1, ?_, fun q _ x hx => ?_⟩, p - t - 1, ?_⟩
  · show walkN left (p - 1) (g (t + 1)) = some (g t)
    rw [hgw, show t + 1 + (p - 1) = p + t by omega, hper]
  · change walkN left q (g (t + 1)) = some x at hx
    rw [hgw] at hx
    cases hx
    exact hall _
  · show walkN left (p - t - 1) (g (t + 1)) = some m0.1
    rw [hgw, show t + 1 + (p - t - 1) = p by omega, ← hper0, hg0]

/-- A move through the spare register opens a ring. -/
theorem rings_spill {left : List (Int × Int)} {spare : Int} (hn : (left.map Prod.fst).Nodup) (hinv : OrdInv spare left) (hf : freeAt left = none) {m0 : Int × Int} (hm0 : m0 ∈ left) :
    rings (left.map (swapTo spare m0.1)) + 1 ≤ rings left := by
  classical
  obtain ⟨hcl, _⟩ := closed_of_none hn hf
  have hfst : ∀ m, (swapTo spare m0.1 m).1 = m.1 := fun m => by unfold swapTo; split <;> rfl
  have hn' : ((left.map (swapTo spare m0.1)).map Prod.fst).Nodup := by
    have e3 : (left.map (swapTo spare m0.1)).map Prod.fst = left.map Prod.fst := by
      rw [List.map_map]
      exact List.map_congr_left (fun m _ => hfst m)
    rw [e3]
    exact hn
  have hnosp : nxt (left.map (swapTo spare m0.1)) spare = none := by
    cases hz : nxt (left.map (swapTo spare m0.1)) spare with
    | none => rfl
    | some z =>
      obtain ⟨m, hm, he⟩ := List.mem_map.1 (nxt_mem hz)
      have h1 := congrArg Prod.fst he
      rw [hfst] at h1
      exact absurd h1 (hinv m hm).2
  have hstep : ∀ x z, nxt (left.map (swapTo spare m0.1)) x = some z → z ≠ spare → nxt left x = some z ∧ z ≠ m0.1 := by
    intro x z hz hzs
    obtain ⟨m, hm, he⟩ := List.mem_map.1 (nxt_mem hz)
    unfold swapTo at he
    split at he
    · exact absurd (Prod.mk.inj he).2.symm hzs
    · rename_i hne
      subst he
      exact ⟨nxt_of hn hm, hne⟩
  -- a walk to a register other than the spare one is a walk as before, and keeps off the register
  have hwalk : ∀ k x y, walkN (left.map (swapTo spare m0.1)) k x = some y → y ≠ spare → walkN left k x = some y ∧ ∀ i, 1 ≤ i → i ≤ k → walkN left i x ≠ some m0.1 := by
    intro k
    induction k with
    | zero => intro x y h _; exact ⟨h, fun i h1 h2 => by omega⟩
    | succ k ih =>
      intro x y h hy
      change (nxt (left.map (swapTo spare m0.1)) x).bind (walkN (left.map (swapTo spare m0.1)) k) = some y at h
      cases hz : nxt (left.map (swapTo spare m0.1)) x with
      | none => rw [hz] at h; cases h
      | some z =>
        rw [hz] at h
        change walkN (left.map (swapTo spare m0.1)) k z = some y at h
        have hzs : z ≠ spare := by
          intro e
          subst e
          cases k with
          | zero => exact hy (Option.some.inj h).symm
          | succ k =>
            change (nxt (left.map (swapTo z m0.1)) z).bind _ = some y at h
            rw [hnosp] at h
            cases h
        obtain ⟨h1, h2⟩ := hstep x z hz hzs
        obtain ⟨h3, h4⟩ := ih z y h hy
        have hcons : ∀ i, walkN left (i + 1) x = walkN left i z := by
          intro i
          show (nxt left x).bind (walkN left i) = _
          rw [h1]
          rfl
        refine ⟨by rw [hcons]; exact h3, fun i hi1 hi2 => ?_⟩
        obtain ⟨i', rfl⟩ : ∃ i', i = i' + 1 := ⟨i - 1, by omega⟩
        rw [hcons]
        cases i' with
        | zero => intro e; exact h2 (Option.some.inj e)
        | succ i' => exact h4 _ (by omega) (by omega)
  have hlead : ∀ m ∈ left, Leader (left.map (swapTo spare m0.1)) (swapTo spare m0.1 m) → Leader left m ∧ ∃ k, walkN left k m.2 = some m.1 ∧ ∀ i, i ≤ k → walkN left i m.2 ≠ some m0.1 := by
    intro m hm ⟨k, hk, hle⟩
    rw [hfst] at hk hle
    have hns := (hinv m hm).2
    have hm2 : m.2 ≠ m0.1 := by
      intro e
      have e2 : (swapTo spare m0.1 m).2 = spare := by unfold swapTo; rw [if_pos e]
      rw [e2] at hk
      cases k with
      | zero => exact hns (Option.some.inj hk).symm
      | succ k =>
        change (nxt (left.map (swapTo spare m0.1)) spare).bind _ = some m.1 at hk
        rw [hnosp] at hk
        cases hk
    have e2 : (swapTo spare m0.1 m).2 = m.2 := by unfold swapTo; rw [if_neg hm2]
    rw [e2] at hk hle
    obtain ⟨h1, h2⟩ := hwalk k _ _ hk hns
    refine ⟨⟨k, h1, fun i hi x hx => ?_⟩, k, h1, fun i hi => ?_⟩
    · obtain ⟨z, hz, hzr⟩ := walkN_pre hk hi
      by_cases hzs : z = spare
      · subst hzs
        exfalso
        cases hki : k - i with
        | zero => rw [hki] at hzr; exact hns (Option.some.inj hzr).symm
        | succ q =>
          rw [hki] at hzr
          change (nxt (left.map (swapTo z m0.1)) z).bind _ = some m.1 at hzr
          rw [hnosp] at hzr
          cases hzr
      · rw [(hwalk i _ _ hz hzs).1] at hx
        cases hx
        exact hle i hi _ hz
    · cases i with
      | zero => intro e; exact hm2 (Option.some.inj e)
      | succ i => exact h2 _ (by omega) hi
  obtain ⟨l, hl, hlL, j, hj⟩ := leader_on hn hf hm0
  have hnot : ¬ Leader (left.map (swapTo spare m0.1)) (swapTo spare m0.1 l) := by
    intro hc
    obtain ⟨_, k, hk, hoff⟩ := hlead l hl hc
    have hper : ∀ q, walkN left (q + (k + 1)) l.2 = walkN left q l.2 := by
      intro q
      rw [Nat.add_comm q, walkN_add, walkN_add, hk]
      show (walkN left 1 l.1).bind _ = _
      have : walkN left 1 l.1 = some l.2 := by
        show (nxt left l.1).bind _ = _
        rw [nxt_of hn (show (l.1, l.2) ∈ left from hl)]
        rfl
      rw [this]
      rfl
    have hmod : ∀ q, walkN left q l.2 ≠ some m0.1 := by
      intro q
      induction q using Nat.strongRecOn with
      | _ q ih =>
        by_cases hq : q ≤ k
        · exact hoff q hq
        · have h1 := hper (q - (k + 1))
          rw [show q - (k + 1) + (k + 1) = q by omega] at h1
          rw [h1]
          exact ih _ (by omega)
    exact hmod j hj
  unfold rings
  rw [List.countP_map]
  have hlt : ∀ (L : List (Int × Int)) (p q : Int × Int → Bool), (∀ m ∈ L, p m = true → q m = true) → (∃ m ∈ L, q m = true ∧ p m = false) → L.countP p + 1 ≤ L.countP q := by
    intro L p q
    induction L with
    | nil => intro _ ⟨m, hm, _⟩; cases hm
    | cons a L ih =>
      intro hpq ⟨m, hm, hq, hp⟩
      rw [List.countP_cons, List.countP_cons]
      have hpqL : ∀ m ∈ L, p m = true → q m = true := fun x hx => hpq x (by simp [hx])
      have hmono := List.countP_mono_left hpqL
      rcases List.mem_cons.1 hm with rfl | hm
      · rw [hq, hp]; simp; omega
      · have h1 := ih hpqL ⟨m, hm, hq, hp⟩
        have h2 := hpq a (by simp)
        cases hpa : p a <;> cases hqa : q a <;> simp_all <;> omega
  refine hlt left _ _ (fun m hm h => ?_) ⟨l, hl, by simpa using hlL, by simpa using hnot⟩
  simp only [Function.comp, decide_eq_true_eq] at h ⊢
  exact (hlead m hm h).1

/-- How many moves there are in the end. -/
theorem order_count {spare : Int} : ∀ (F : Nat) (left out : List (Int × Int)), ordMeas left ≤ F → (left.map Prod.fst).Nodup → OrdInv spare left →
    out.length + left.length ≤ (ordEnd spare F left out).length ∧ (ordEnd spare F left out).length ≤ out.length + left.length + rings left := by
  intro F
  induction F with
  | zero =>
    intro left out hm _ _
    have hl : left = [] := by
      cases left with
      | nil => rfl
      | cons a l => unfold ordMeas at hm; simp at hm
    subst hl
    simp [ordEnd]
  | succ F ih =>
    intro left out hm hn hinv
    rw [ordEnd]
    split
    · rename_i he
      subst he
      simp
    · rename_i hne
      obtain ⟨F', hF, hm', _, hinv'⟩ := ord_round (spare := spare) (out := out) (R := ordEnd spare (F + 1) left out) hne hinv hm rfl
      obtain rfl : F = F' := by omega
      cases hf : freeAt left with
      | some k =>
        obtain ⟨m, hk, _, _⟩ := freeAt_some hf
        have hkl := (List.getElem?_eq_some_iff.1 hk).1
        have e : ordStep spare left out = (left.eraseIdx k, out ++ [m]) := by simp [ordStep, hf, hk]
        rw [e] at hm' hinv' ⊢
        have hn' : ((left.eraseIdx k).map Prod.fst).Nodup := by
          have e3 : (left.eraseIdx k).map Prod.fst = (left.map Prod.fst).eraseIdx k := by
            rw [List.eraseIdx_eq_take_drop_succ, List.eraseIdx_eq_take_drop_succ, List.map_append, List.map_take, List.map_drop]
          rw [e3]
          exact hn.eraseIdx k
        have h1 := ih _ (out ++ [m]) hm' hn' hinv'
        have h2 := rings_erase hn k
        rw [List.length_eraseIdx, if_pos hkl] at h1
        simp only [List.length_append, List.length_singleton] at h1
        simp only
        omega
      | none =>
        obtain ⟨m0, rest, rfl⟩ := List.exists_cons_of_ne_nil hne
        have e : ordStep spare (m0 :: rest) out = ((m0 :: rest).map (swapTo spare m0.1), out ++ [(spare, m0.1)]) := by simp [ordStep, hf]
        rw [e] at hm' hinv' ⊢
        have hfst : ∀ m, (swapTo spare m0.1 m).1 = m.1 := fun m => by unfold swapTo; split <;> rfl
        have hn' : (((m0 :: rest).map (swapTo spare m0.1)).map Prod.fst).Nodup := by
          have e3 : ((m0 :: rest).map (swapTo spare m0.1)).map Prod.fst = (m0 :: rest).map Prod.fst := by
            rw [List.map_map]
            exact List.map_congr_left (fun m _ => hfst m)
          rw [e3]
          exact hn
        have h1 := ih _ (out ++ [(spare, m0.1)]) hm' hn' hinv'
        have h2 := rings_spill hn hinv hf (List.mem_cons_self (a := m0) (l := rest))
        rw [List.length_map] at h1
        simp only [List.length_append, List.length_singleton] at h1
        simp only
        omega

end Go.Proofs.Ythadaohnanpmiaa
