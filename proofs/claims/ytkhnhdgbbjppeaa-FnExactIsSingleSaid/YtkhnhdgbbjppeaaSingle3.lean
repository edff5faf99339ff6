
/-
  IsSingle: the reference's test of a code; plain facts.
-/
import Derived.Test.YtkhnhdgbbjppeaaSingle2
import Derived.Test.YtkhnhdgbbjppeaaUsesIn
import Derived.Deep.DeepCutAuto
namespace Go.Proofs.Ytkhnhdgbbjppeaa
open Go.RowKit

/-- The visit lists as many blocks as it sees. -/
theorem leftOf_full {g : List (List Int)} (hf : Fits g) : (leftOf g).length = g.length ↔ ∀ v, v < g.length → reachB g (-1) v = true := by
  have h := dfs_count g g.length 0 (List.replicate g.length false, [])
  have hu : ∀ n : Nat, unseen (List.replicate n false) = n := by
    intro n
    induction n with
    | zero => rfl
    | succ n ih => rw [List.replicate_succ]; unfold unseen at ih ⊢; rw [List.countP_cons, ih]; rfl
  have h2 : (leftOf g).length + unseen (reachRow g (-1)) = g.length := by
    rw [← visit_all hf]
    have h4 : (leftOf g).length + unseen (dfs g g.length 0 (List.replicate g.length false, [])).1 = 0 + unseen (List.replicate g.length false) := h
    rw [hu g.length] at h4
    omega
  have h3 : unseen (reachRow g (-1)) = 0 ↔ ∀ v, v < g.length → reachB g (-1) v = true := by
    unfold unseen
    rw [List.countP_eq_zero]
    constructor
    · intro h v hv
      have := h (reachB g (-1) v) (List.mem_of_getElem? (reachRow_get hv))
      simpa using this
    · intro h x hx
      obtain ⟨v, hv⟩ := List.getElem?_of_mem hx
      have hl : v < g.length := by have := (List.getElem?_eq_some_iff.1 hv).1; rwa [reachRow_length] at this
      rw [reachRow_get hl] at hv
      cases hv
      simp [h v hl]
  rw [← h3]
  omega
theorem evTo_in {b : Nat} {is : List InsD} : ∀ i, ∀ e ∈ evTo b is i, e.2.1 = (b : Int)
  | 0, e, he => by simp [evTo] at he
  | i + 1, e, he => by
    rw [evTo, List.mem_append] at he
    rcases he with h | h
    · exact evTo_in i e h
    · split at h
      · split at h
        · simp at h; rw [h]
        · simp at h
      · simp at h
theorem evBl_in {bs : List BlockD} : ∀ b, ∀ e ∈ evBl bs b, 0 ≤ e.2.1 ∧ e.2.1 < (b : Int)
  | 0, e, he => by simp [evBl] at he
  | b + 1, e, he => by
    cases hx : bs[b]? with
    | none =>
      rw [evBl, hx] at he
      simp at he
      have := evBl_in b e he
      omega
    | some x =>
      rw [evBl_succ hx, List.mem_append] at he
      rcases he with h | h
      · have := evBl_in b e h; omega
      · rw [evBlock, List.mem_append] at h
        rcases h with h | h
        · obtain ⟨f, _, rfl⟩ := List.mem_map.1 h
          show (0 : Int) ≤ (b : Int) ∧ (b : Int) < ((b + 1 : Nat) : Int)
          omega
        · rw [evTo_in _ e h]; omega
theorem addAt_mem {P : List (List Pl)} {e : Int × Pl} {ps : List Pl} {a : Pl} (h : ps ∈ addAt P e) (ha : a ∈ ps) : a = e.2 ∨ ∃ qs ∈ P, a ∈ qs := by
  unfold addAt at h
  rcases List.mem_or_eq_of_mem_set h with h1 | h1
  · exact .inr ⟨ps, h1, ha⟩
  · rw [h1, List.mem_append] at ha
    rcases ha with h2 | h2
    · rw [List.getD_eq_getElem?_getD] at h2
      cases hx : P[e.1.toNat]? with
      | none => rw [hx] at h2; simp at h2
      | some qs => rw [hx] at h2; exact .inr ⟨qs, List.mem_of_getElem? hx, h2⟩
    · simp at h2; exact .inl h2
theorem setsP_mem {n : Nat} {L : List (Int × Pl)} : ∀ ps ∈ setsP n L, ∀ a ∈ ps, ∃ e ∈ L, a = e.2 := by
  have key : ∀ (L : List (Int × Pl)) (P : List (List Pl)), ∀ ps ∈ L.foldl addAt P, ∀ a ∈ ps, (∃ e ∈ L, a = e.2) ∨ ∃ qs ∈ P, a ∈ qs := by
    intro L
    induction L with
    | nil => intro P ps hp a ha; exact .inr ⟨ps, hp, ha⟩
    | cons e L ih =>
      intro P ps hp a ha
      rcases ih (addAt P e) ps hp a ha with ⟨e2, h1, h2⟩ | ⟨qs, h1, h2⟩
      · exact .inl ⟨e2, List.mem_cons_of_mem _ h1, h2⟩
      · rcases addAt_mem h1 h2 with h3 | ⟨rs, h3, h4⟩
        · exact .inl ⟨e, List.mem_cons_self, h3⟩
        · exact .inr ⟨rs, h3, h4⟩
  intro ps hp a ha
  rcases key L (List.replicate n []) ps hp a ha with h | ⟨qs, h1, h2⟩
  · exact h
  · rw [(List.mem_replicate.1 h1).2] at h2; simp at h2
theorem plIn_of (n : Nat) (bs : List BlockD) : PlIn bs.length (setsP n (evBl bs bs.length)) := by
  intro ps hp a ha
  obtain ⟨e, he, rfl⟩ := setsP_mem ps hp a ha
  exact evBl_in _ e he

theorem blkOk_of {us : List CodeD} {k b n : Nat} {c : CodeD} {x : BlockD} (h : codeB us k c = true) (hx : c.blocks[b]? = some x) (hn : c.regs = (n : Int)) : BlkOk n c b x := by
  have hb := code_block h hx
  have ha := block_args hb
  rw [hn] at ha
  have hj := code_jumps h x (List.mem_of_getElem? hx)
  rw [blockB, Bool.and_eq_true, Bool.and_eq_true, Bool.and_eq_true] at hb
  refine ⟨fun f hf => ⟨?_, fun r hr => ha r ?_⟩, fun y hy r hr => ha r ?_, fun h1 => ha x.jon ?_⟩
  · have h1 := List.all_eq_true.1 hb.2 f hf
    rw [phiB, Bool.and_eq_true, Bool.and_eq_true] at h1
    have h2 := h1.1.2
    simp only [Bool.not_eq_true', bne_eq_false_iff_eq] at h2
    omega
  · unfold blockArgs
    exact List.mem_append_left _ (List.mem_append_left _ (List.mem_flatMap.2 ⟨f, hf, hr⟩))
  · unfold blockArgs
    exact List.mem_append_left _ (List.mem_append_right _ (List.mem_flatMap.2 ⟨y, hy, hr⟩))
  · unfold blockArgs
    refine List.mem_append_right _ ?_
    unfold onArgs
    rw [if_pos (by rcases hj with e | e | e <;> simp [usesJ, e] <;> omega)]
    simp
theorem code_fits {us : List CodeD} {k : Nat} {c : CodeD} (h : codeB us k c = true) : Fits (nxs c) := by
  have hl := code_lims h
  refine ⟨by rw [nxs_len]; omega, fun u l hu y hy => ?_⟩
  unfold nxs at hu
  rw [List.getElem?_map] at hu
  cases hx : c.blocks[u]? with
  | none => rw [hx] at hu; cases hu
  | some x =>
    rw [hx] at hu
    cases hu
    have hb := code_block h hx
    rw [blockB, Bool.and_eq_true, Bool.and_eq_true, Bool.and_eq_true] at hb
    have h1 : x.nx.any (fun y => !inB c.blocks.length y) = false := by simpa using hb.1.1.2
    have h2 := any_false h1 y hy
    simp only [inB, Bool.not_eq_false', Bool.and_eq_true, decide_eq_true_eq] at h2
    rw [nxs_len]
    omega

end Go.Proofs.Ytkhnhdgbbjppeaa
