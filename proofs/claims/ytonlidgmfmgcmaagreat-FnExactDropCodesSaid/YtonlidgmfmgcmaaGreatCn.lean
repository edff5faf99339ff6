
/-
  CodesNeeded: what both compute.
-/
import Derived.Test.YtonlidgmfmgcmaaGreatCalls
import Derived.Test.YtonlidgmfmgcmaaGreatSortU
namespace Go.Proofs.YtonlidgmfmgcmaaGreat
open Go.RowKit

/-- The number that the instruction at a place bears. -/
def numAt (bs : List BlockD) (p : List Int) : Int := ((bs[(p.getD 0 0).toNat]?).bind (fun x => (x.ins[(p.getD 1 0).toNat]?).map (·.num))).getD 0
/-- The codes that code k calls, in the order of its calls. -/
def callees (us : List CodeD) (k : Nat) : List Int := ((us[k]?).map (fun c => (callsBl c.blocks c.blocks.length).map (numAt c.blocks))).getD []
theorem callees_of {us : List CodeD} {k : Nat} {c : CodeD} (h : us[k]? = some c) : callees us k = (callsBl c.blocks c.blocks.length).map (numAt c.blocks) := by rw [callees, h]; rfl

theorem callsTo_mem {b : Nat} {is : List InsD} {p : List Int} : ∀ i, p ∈ callsTo b is i → ∃ (j : Nat) (y : InsD), p = [(b : Int), (j : Int)] ∧ is[j]? = some y ∧ y.op = 14
  | 0, h => by simp [callsTo] at h
  | i + 1, h => by
    rw [callsTo, List.mem_append] at h
    rcases h with h | h
    · exact callsTo_mem i h
    · cases hx : is[i]? with
      | none => rw [hx] at h; simp at h
      | some y =>
        rw [hx] at h
        simp only [Option.any_some] at h
        split at h
        · rename_i h2
          rw [List.mem_singleton] at h
          exact ⟨i, y, h, hx, by simpa using h2⟩
        · simp at h
theorem callsBl_mem {bs : List BlockD} {p : List Int} : ∀ n, p ∈ callsBl bs n → ∃ (b j : Nat) (x : BlockD) (y : InsD), p = [(b : Int), (j : Int)] ∧ bs[b]? = some x ∧ x.ins[j]? = some y ∧ y.op = 14
  | 0, h => by simp [callsBl] at h
  | n + 1, h => by
    rw [callsBl, List.mem_append] at h
    rcases h with h | h
    · exact callsBl_mem n h
    · cases hx : bs[n]? with
      | none => rw [hx] at h; simp at h
      | some x =>
        rw [hx] at h
        obtain ⟨j, y, h1, h2, h3⟩ := callsTo_mem _ (show p ∈ callsTo n x.ins x.ins.length from h)
        exact ⟨n, j, x, y, h1, hx, h2, h3⟩
theorem numAt_of {bs : List BlockD} {b j : Nat} {x : BlockD} {y : InsD} (hx : bs[b]? = some x) (hy : x.ins[j]? = some y) : numAt bs [(b : Int), (j : Int)] = y.num := by
  simp [numAt, hx, hy]
/-- A call goes to a code ahead. -/
theorem call_back {us : List CodeD} {k b j : Nat} {c : CodeD} {x : BlockD} {y : InsD} (hc : codeB us k c = true) (hx : c.blocks[b]? = some x) (hy : x.ins[j]? = some y) (hop : y.op = 14) : 0 ≤ y.num ∧ y.num < (k : Int) := by
  have h1 := code_block hc hx
  rw [blockB, Bool.and_eq_true, Bool.and_eq_true, Bool.and_eq_true] at h1
  have h0 : x.ins.any (fun i => !insB us k c.regs i) = false := by simpa using h1.1.2
  have h2 : insB us k c.regs y = true := by simpa using any_false h0 y (List.mem_of_getElem? hy)
  rw [insB, Bool.and_eq_true] at h2
  have h3 := h2.2
  rw [tailB, if_neg (by rw [hop]; decide), if_pos hop, callB] at h3
  simp only [Bool.and_eq_true, decide_eq_true_eq] at h3
  exact ⟨h3.1.1, by have := h3.1.2; omega⟩
theorem callees_lt {us : List CodeD} {k : Nat} (hu : unitB us = true) {z : Int} (hz : z ∈ callees us k) : ∃ m : Nat, z = (m : Int) ∧ m < k := by
  cases hc : us[k]? with
  | none => rw [callees, hc] at hz; simp at hz
  | some c =>
    rw [callees_of hc] at hz
    obtain ⟨p, hp, rfl⟩ := List.mem_map.1 hz
    obtain ⟨b, j, x, y, rfl, hx, hy, hop⟩ := callsBl_mem _ hp
    rw [numAt_of hx hy]
    have := call_back (unit_code hu hc) hx hy hop
    exact ⟨y.num.toNat, by omega, by omega⟩

/-- What is called from a code on, and by what is called. -/
inductive Rch (us : List CodeD) (n : Nat) : Nat → Prop
  | refl : Rch us n n
  | step {m : Nat} {z : Int} : Rch us n m → z ∈ callees us m → Rch us n z.toNat
theorem Rch.head {us : List CodeD} {n m : Nat} {z : Int} (hz : z ∈ callees us n) (h : Rch us z.toNat m) : Rch us n m := by
  induction h with
  | refl => exact Rch.refl.step hz
  | step _ h2 ih => exact ih.step h2
theorem Rch.le {us : List CodeD} {n m : Nat} (hu : unitB us = true) (h : Rch us n m) : m ≤ n := by
  induction h with
  | refl => exact Nat.le_refl _
  | step _ h2 ih => obtain ⟨k, rfl, hk⟩ := callees_lt hu h2; rw [Int.toNat_natCast]; omega

/-! ### the program's visit -/
def visN (us : List CodeD) : Nat → Nat → List Int → List Int
  | 0, _, S => S
  | f + 1, n, S => if (n : Int) ∈ S then S else (callees us n).foldl (fun S z => visN us f z.toNat S) ((n : Int) :: S)
def visTo (us : List CodeD) (f n : Nat) (S : List Int) (k : Nat) : List Int := ((callees us n).take k).foldl (fun S z => visN us f z.toNat S) ((n : Int) :: S)
theorem visTo_succ {us : List CodeD} {f n k : Nat} {S : List Int} {z : Int} (hz : (callees us n)[k]? = some z) : visTo us f n S (k + 1) = visN us f z.toNat (visTo us f n S k) := by
  unfold visTo
  rw [take_succ_of hz, List.foldl_append]; rfl
theorem visN_new {us : List CodeD} {f n : Nat} {S : List Int} (h : ¬ (n : Int) ∈ S) : visN us (f + 1) n S = visTo us f n S (callees us n).length := by
  rw [visN, if_neg h, visTo, List.take_length]
/-- What a visit leaves. -/
structure Vis (us : List CodeD) (n : Nat) (S R : List Int) : Prop where
  sub : ∀ z ∈ S, z ∈ R
  me : (n : Int) ∈ R
  new : ∀ z ∈ R, z ∈ S ∨ ∃ m : Nat, z = (m : Int) ∧ Rch us n m ∧ ∀ y ∈ callees us m, y ∈ R
theorem visN_vis {us : List CodeD} (hu : unitB us = true) : ∀ (f n : Nat) (S : List Int), n < f → Vis us n S (visN us f n S)
  | 0, _, _, h => by omega
  | f + 1, n, S, h => by
    by_cases hm : (n : Int) ∈ S
    · rw [visN, if_pos hm]
      exact ⟨fun _ h => h, hm, fun _ h => .inl h⟩
    · rw [visN_new hm]
      have key : ∀ k, k ≤ (callees us n).length → (∀ z ∈ (n : Int) :: S, z ∈ visTo us f n S k) ∧ (∀ (j : Nat) z, j < k → (callees us n)[j]? = some z → z ∈ visTo us f n S k) ∧
          (∀ z ∈ visTo us f n S k, z ∈ (n : Int) :: S ∨ ∃ m : Nat, z = (m : Int) ∧ Rch us n m ∧ ∀ y ∈ callees us m, y ∈ visTo us f n S k) := by
        intro k
        induction k with
        | zero => intro _; exact ⟨fun _ h => h, fun j z hj => by omega, fun _ h => .inl h⟩
        | succ k ih =>
          intro hk
          obtain ⟨h1, h2, h3⟩ := ih (by omega)
          obtain ⟨z, hz⟩ : ∃ z, (callees us n)[k]? = some z := ⟨_, List.getElem?_eq_getElem (by omega)⟩
          obtain ⟨q, rfl, hq⟩ := callees_lt hu (List.mem_of_getElem? hz)
          have hv := visN_vis hu f q (visTo us f n S k) (by omega)
          rw [visTo_succ hz, Int.toNat_natCast]
          refine ⟨fun z h => hv.sub z (h1 z h), fun j z hj hjz => ?_, fun z hzr => ?_⟩
          · by_cases hjk : j = k
            · subst hjk; rw [hz] at hjz; cases hjz; exact hv.me
            · exact hv.sub z (h2 j z (by omega) hjz)
          · rcases hv.new z hzr with h4 | ⟨m, rfl, h4, h5⟩
            · rcases h3 z h4 with h5 | ⟨m, rfl, h5, h6⟩
              · exact .inl h5
              · exact .inr ⟨m, rfl, h5, fun y hy => hv.sub y (h6 y hy)⟩
            · exact .inr ⟨m, rfl, Rch.head (List.mem_of_getElem? hz) (by rw [Int.toNat_natCast]; exact h4), h5⟩
      obtain ⟨h1, h2, h3⟩ := key _ (Nat.le_refl _)
      refine ⟨fun z hz => h1 z (by simp [hz]), h1 _ (by simp), fun z hz => ?_⟩
      rcases h3 z hz with h4 | h4
      · rcases List.mem_cons.1 h4 with rfl | h5
        · refine .inr ⟨n, rfl, Rch.refl, fun y hy => ?_⟩
          obtain ⟨j, hj⟩ := List.getElem?_of_mem hy
          exact h2 j y (List.getElem?_eq_some_iff.1 hj).1 hj
        · exact .inl h5
      · exact .inr h4
/-- The numbers in the set, as many as are put in. -/
structure VS2 (N : Nat) (S : List Int) : Prop where
  nd : S.Nodup
  rng : ∀ z ∈ S, 0 ≤ z ∧ z < (N : Int)
theorem VS2.len {N : Nat} {S : List Int} (h : VS2 N S) : S.length ≤ N := by
  have h1 : ((List.range N).map Int.ofNat).Nodup := by
    rw [List.nodup_iff_pairwise_ne, List.pairwise_map]
    refine List.pairwise_lt_range.imp (fun {a b} hab e => ?_)
    have := Int.ofNat.inj e
    omega
  have h2 : (((List.range N).map Int.ofNat).filter (fun z => decide (z ∈ S))).Nodup := List.Pairwise.filter _ h1
  have h3 := ((List.perm_ext_iff_of_nodup h.nd h2).2 (fun z => by
    rw [List.mem_filter, List.mem_map]
    constructor
    · intro hz
      have := h.rng z hz
      exact ⟨⟨z.toNat, List.mem_range.2 (by omega), by show ((z.toNat : Nat) : Int) = z; omega⟩, decide_eq_true hz⟩
    · rintro ⟨_, hz⟩
      exact of_decide_eq_true hz)).length_eq
  rw [h3]
  refine Nat.le_trans (List.length_filter_le _ _) ?_
  simp
theorem VS2.cons {N n : Nat} {S : List Int} (h : VS2 N S) (hn : n < N) (hm : ¬ (n : Int) ∈ S) : VS2 N ((n : Int) :: S) :=
  ⟨List.nodup_cons.2 ⟨hm, h.nd⟩, fun z hz => by
    rcases List.mem_cons.1 hz with rfl | h2
    · omega
    · exact h.rng z h2⟩
theorem VS2.vis {us : List CodeD} (hu : unitB us = true) {N : Nat} : ∀ (f n : Nat) {S : List Int}, n < N → VS2 N S → VS2 N (visN us f n S)
  | 0, _, _, _, h => h
  | f + 1, n, S, hn, h => by
    by_cases hm : (n : Int) ∈ S
    · rw [visN, if_pos hm]; exact h
    · rw [visN, if_neg hm]
      have key : ∀ (L : List Int) (T : List Int), (∀ z ∈ L, z ∈ callees us n) → VS2 N T → VS2 N (L.foldl (fun S z => visN us f z.toNat S) T) := by
        intro L
        induction L with
        | nil => intro T _ hT; exact hT
        | cons z L ih =>
          intro T hL hT
          rw [List.foldl_cons]
          obtain ⟨q, hq, hlt⟩ := callees_lt hu (hL z (by simp))
          exact ih _ (fun y hy => hL y (by simp [hy])) (VS2.vis hu f z.toNat (by rw [hq, Int.toNat_natCast]; omega) hT)
      exact key _ _ (fun _ h => h) (h.cons hn hm)
theorem VS2.visTo {us : List CodeD} (hu : unitB us = true) {N f n : Nat} {S : List Int} (hn : n < N) (h : VS2 N S) (hm : ¬ (n : Int) ∈ S) : ∀ k, VS2 N (visTo us f n S k)
  | 0 => h.cons hn hm
  | k + 1 => by
    cases hz : (callees us n)[k]? with
    | none =>
      have h1 := VS2.visTo hu hn h hm (f := f) k
      have hl : (callees us n).length ≤ k := List.getElem?_eq_none_iff.1 hz
      unfold Go.Proofs.YtonlidgmfmgcmaaGreat.visTo at h1 ⊢
      rw [List.take_of_length_le (by omega)]
      rwa [List.take_of_length_le hl] at h1
    | some z =>
      rw [visTo_succ hz]
      obtain ⟨q, hq, hlt⟩ := callees_lt hu (List.mem_of_getElem? hz)
      exact VS2.vis hu f _ (by rw [hq, Int.toNat_natCast]; omega) (VS2.visTo hu hn h hm k)

/-! ### the reference's table -/
def setB (T : List Bool) (z : Int) : List Bool := T.set z.toNat true
def needTo (us : List CodeD) (N : Nat) : Nat → List Bool
  | 0 => (List.replicate N false).set (N - 1) true
  | j + 1 => if (needTo us N j).getD (N - 1 - j) false then (callees us (N - 1 - j)).foldl setB (needTo us N j) else needTo us N j
def cnP (us : List CodeD) : List Int := if unitB us then filtTo (fun m => (needTo us us.length us.length).getD m false) us.length else []
theorem setB_len (T : List Bool) (z : Int) : (setB T z).length = T.length := by simp [setB]
theorem foldB_len (L : List Int) : ∀ T : List Bool, (L.foldl setB T).length = T.length := by
  induction L with
  | nil => intro T; rfl
  | cons z L ih => intro T; rw [List.foldl_cons, ih, setB_len]
theorem setB_getD {T : List Bool} {z : Int} {m : Nat} : (setB T z).getD m false = true ↔ T.getD m false = true ∨ (m = z.toNat ∧ m < T.length) := by
  unfold setB
  rw [List.getD_eq_getElem?_getD, List.getD_eq_getElem?_getD, List.getElem?_set]
  by_cases h : z.toNat = m
  · subst h
    rw [if_pos rfl]
    by_cases hl : z.toNat < T.length
    · rw [if_pos hl]; simp [hl]
    · rw [if_neg hl]; simp [hl]
  · rw [if_neg h]
    constructor
    · exact .inl
    · rintro (h2 | ⟨h2, _⟩)
      · exact h2
      · exact absurd h2.symm h
theorem foldB_getD {m : Nat} : ∀ (L : List Int) (T : List Bool), (L.foldl setB T).getD m false = true ↔ T.getD m false = true ∨ (m < T.length ∧ ∃ z ∈ L, m = z.toNat) := by
  intro L
  induction L with
  | nil => intro T; simp
  | cons z L ih =>
    intro T
    rw [List.foldl_cons, ih, setB_getD, setB_len]
    constructor
    · rintro ((h | ⟨h1, h2⟩) | ⟨h1, y, hy, h2⟩)
      · exact .inl h
      · exact .inr ⟨h2, z, by simp, h1⟩
      · exact .inr ⟨h1, y, by simp [hy], h2⟩
    · rintro (h | ⟨h1, y, hy, h2⟩)
      · exact .inl (.inl h)
      · rcases List.mem_cons.1 hy with rfl | h3
        · exact .inl (.inr ⟨h2, h1⟩)
        · exact .inr ⟨h1, y, h3, h2⟩
theorem needTo_len (us : List CodeD) (N : Nat) : ∀ j, (needTo us N j).length = N
  | 0 => by simp [needTo]
  | j + 1 => by
    rw [needTo]
    split
    · rw [foldB_len, needTo_len us N j]
    · exact needTo_len us N j
/-- The table while it is filled. -/
structure Need (us : List CodeD) (N j : Nat) (T : List Bool) : Prop where
  len : T.length = N
  top : T.getD (N - 1) false = true
  sound : ∀ m, T.getD m false = true → Rch us (N - 1) m
  clos : ∀ k, N - j ≤ k → k < N → T.getD k false = true → ∀ z ∈ callees us k, T.getD z.toNat false = true
theorem needTo_need {us : List CodeD} (hu : unitB us = true) {N : Nat} (hN : 0 < N) : ∀ j, j ≤ N → Need us N j (needTo us N j)
  | 0, _ => by
    have hg : ∀ m, (needTo us N 0).getD m false = true → m = N - 1 := by
      intro m h
      rw [needTo, List.getD_eq_getElem?_getD, List.getElem?_set] at h
      by_cases e : N - 1 = m
      · exact e.symm
      · rw [if_neg e, List.getElem?_replicate] at h
        split at h <;> simp at h
    refine ⟨needTo_len us N 0, ?_, fun m h => by rw [hg m h]; exact Rch.refl, fun k h1 h2 => by omega⟩
    rw [needTo, List.getD_eq_getElem?_getD, List.getElem?_set, if_pos rfl, if_pos (by simp; omega)]; rfl
  | j + 1, hj => by
    have ih := needTo_need hu hN j (by omega)
    have hk : N - 1 - j < N := by omega
    rw [needTo]
    by_cases hT : (needTo us N j).getD (N - 1 - j) false = true
    · rw [if_pos hT]
      refine ⟨by rw [foldB_len]; exact ih.len, (foldB_getD _ _).2 (.inl ih.top), fun m h => ?_, fun k h1 h2 h3 z hz => ?_⟩
      · rcases (foldB_getD _ _).1 h with h | ⟨_, z, hz, rfl⟩
        · exact ih.sound m h
        · exact (ih.sound _ hT).step hz
      · obtain ⟨q, rfl, hq⟩ := callees_lt hu hz
        rw [Int.toNat_natCast]
        by_cases hkk : k = N - 1 - j
        · subst hkk
          exact (foldB_getD _ _).2 (.inr ⟨by rw [ih.len]; omega, (q : Int), hz, by simp⟩)
        · have hTk : (needTo us N j).getD k false = true := by
            rcases (foldB_getD _ _).1 h3 with h | ⟨_, y, hy, he⟩
            · exact h
            · obtain ⟨p, rfl, hp⟩ := callees_lt hu hy
              rw [Int.toNat_natCast] at he
              omega
          have := ih.clos k (by omega) h2 hTk _ hz
          rw [Int.toNat_natCast] at this
          exact (foldB_getD _ _).2 (.inl this)
    · rw [if_neg hT]
      refine ⟨ih.len, ih.top, ih.sound, fun k h1 h2 h3 z hz => ?_⟩
      by_cases hkk : k = N - 1 - j
      · subst hkk; exact absurd h3 hT
      · exact ih.clos k (by omega) h2 h3 z hz
theorem mem_filtTo {p : Nat → Bool} {k i : Nat} (hi : i < k) (h : p i = true) : (i : Int) ∈ filtTo p k := by
  unfold filtTo
  exact List.mem_map.2 ⟨i, List.mem_filter.2 ⟨List.mem_range.2 hi, h⟩, rfl⟩
/-- Both find the same codes. -/
theorem cn_mem {us : List CodeD} (hu : unitB us = true) (hN : 0 < us.length) (z : Int) : z ∈ cnP us ↔ z ∈ visN us us.length (us.length - 1) [] := by
  have hv := visN_vis hu us.length (us.length - 1) [] (by omega)
  have hn := needTo_need hu hN us.length (Nat.le_refl _)
  have h1 : ∀ m : Nat, Rch us (us.length - 1) m → (m : Int) ∈ visN us us.length (us.length - 1) [] := by
    intro m h
    induction h with
    | refl => exact hv.me
    | step _ h2 ih =>
      rcases hv.new _ ih with h3 | ⟨q, he, _, h4⟩
      · simp at h3
      · have hqe := Int.ofNat.inj he
        rw [← hqe] at h4
        obtain ⟨k, rfl, _⟩ := callees_lt hu h2
        rw [Int.toNat_natCast]
        exact h4 _ h2
  have h2 : ∀ m : Nat, Rch us (us.length - 1) m → (needTo us us.length us.length).getD m false = true := by
    intro m h
    induction h with
    | refl => exact hn.top
    | step h1 h2 ih =>
      have := h1.le hu
      exact hn.clos _ (by omega) (by omega) ih _ h2
  rw [cnP, if_pos hu]
  constructor
  · intro h
    obtain ⟨i, hi, hb, rfl⟩ := filtTo_mem h
    exact h1 i (hn.sound i hb)
  · intro h
    rcases hv.new z h with h3 | ⟨m, rfl, h4, _⟩
    · simp at h3
    · have := h4.le hu
      exact mem_filtTo (by omega) (h2 m h4)
theorem cnP_len (us : List CodeD) : (cnP us).length ≤ us.length := by
  unfold cnP
  split
  · exact filtTo_len _ _
  · simp

end Go.Proofs.YtonlidgmfmgcmaaGreat
