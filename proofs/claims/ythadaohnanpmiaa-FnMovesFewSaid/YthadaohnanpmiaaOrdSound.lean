/-
  Plain law: moves in their order do, one behind the other, what the moves do at once, but for the spare register.
-/
import Derived.Test.YthadaohnanpmiaaOrdPlain
import Derived.Test.YthadaohnanpmiaaLAtOnce
namespace Go.Proofs.Ythadaohnanpmiaa
open Go.RowKit

theorem covered {α : Type} [DecidableEq α] {l1 l2 : List α} (hn : l1.Nodup) (hs : ∀ x ∈ l1, x ∈ l2) (hl : l2.length ≤ l1.length) : ∀ x ∈ l2, x ∈ l1 := by
  intro x hx
  by_cases hx1 : x ∈ l1
  · exact hx1
  · exfalso
    have h1 : ∀ y ∈ l1, y ∈ l2.erase x := fun y hy => (List.mem_erase_of_ne (fun e => hx1 (by rw [← e]; exact hy))).2 (hs y hy)
    have h2 := hn.length_le_of_subset h1
    rw [List.length_erase_of_mem hx] at h2
    have := List.length_pos_of_mem hx
    omega

/-- Registers of which one is moved to, one moved from. -/
def Inside (n : Nat) (left : List (Int × Int)) : Prop := ∀ m ∈ left, 0 ≤ m.1 ∧ m.1 < n ∧ 0 ≤ m.2 ∧ m.2 < n
structure Half (spare : Int) (n : Nat) (left : List (Int × Int)) (s t : List Int) : Prop where
  ls : s.length = n
  lt : t.length = n
  inside : Inside n left
  inv : OrdInv spare left
  dests : (left.map Prod.fst).Nodup
  due : ∀ m ∈ left, t.getD m.1.toNat 0 = s.getD m.2.toNat 0
  done : ∀ r : Nat, (r : Int) ≠ spare → (∀ m ∈ left, m.1 ≠ r) → s.getD r 0 = t.getD r 0

def stepOf (s : List Int) (m : Int × Int) : List Int := s.set m.1.toNat (s.getD m.2.toNat 0)
theorem stepSeq_enc (s : List Int) (m : Int × Int) : stepSeq s (enc m) = stepOf s m := rfl
theorem getD_set_self {s : List Int} {i : Nat} {v : Int} (h : i < s.length) : (s.set i v).getD i 0 = v := by
  rw [List.getD_eq_getElem?_getD, List.getElem?_set_self h]; rfl
theorem getD_set_ne {s : List Int} {i j : Nat} {v : Int} (h : i ≠ j) : (s.set i v).getD j 0 = s.getD j 0 := by
  rw [List.getD_eq_getElem?_getD, List.getElem?_set_ne h, List.getD_eq_getElem?_getD]

theorem ordStep_out (spare : Int) (left out : List (Int × Int)) : ∃ m, (ordStep spare left out).2 = out ++ [m] := by
  unfold ordStep
  split <;> exact ⟨_, rfl⟩
theorem free_ne {left : List (Int × Int)} {m : Int × Int} (h : isFree left m = true) : ∀ o ∈ left, o.2 ≠ m.1 := by
  intro o ho
  rw [isFree, List.all_eq_true] at h
  have := h o ho
  simpa using this
theorem not_free {left : List (Int × Int)} {m : Int × Int} (h : isFree left m = false) : ∃ o ∈ left, o.2 = m.1 := by
  rw [isFree, List.all_eq_false] at h
  obtain ⟨o, ho, h1⟩ := h
  exact ⟨o, ho, by simpa using h1⟩

/-- One round of the moves, done. -/
theorem half_step {spare : Int} {n : Nat} {left out : List (Int × Int)} {s t : List Int} (h : Half spare n left s t) (hne : left ≠ []) (hsp : 0 ≤ spare ∧ spare < n) :
    ∃ m : Int × Int, (ordStep spare left out).2 = out ++ [m] ∧ 0 ≤ m.1 ∧ m.1 < n ∧ 0 ≤ m.2 ∧ m.2 < n ∧ Half spare n (ordStep spare left out).1 (stepOf s m) t := by
  obtain ⟨hsp0, hspn⟩ := hsp
  cases hf : freeAt left with
  | some k =>
    obtain ⟨m, hk, hfm, _⟩ := freeAt_some hf
    have hmem := List.mem_of_getElem? hk
    obtain ⟨hi0, hi1, hi2, hi3⟩ := h.inside m hmem
    have hfn := free_ne hfm
    have e1 : (ordStep spare left out).1 = left.eraseIdx k := by simp [ordStep, hf]
    have e2 : (ordStep spare left out).2 = out ++ [m] := by simp [ordStep, hf, hk]
    have hsub : ∀ x ∈ left.eraseIdx k, x ∈ left := fun x hx => List.mem_of_mem_eraseIdx hx
    have hsup : ∀ x ∈ left, x ∈ left.eraseIdx k ∨ x = m := by
      intro x hx
      obtain ⟨j, hj⟩ := List.getElem?_of_mem hx
      by_cases hjk : j = k
      · subst hjk
        rw [hk] at hj
        exact .inr (Option.some.inj hj).symm
      · exact .inl (List.mem_eraseIdx_iff_getElem?.2 ⟨j, hjk, hj⟩)
    refine ⟨m, e2, hi0, hi1, hi2, hi3, ?_⟩
    rw [e1]
    have hlen : m.1.toNat < s.length := by rw [h.ls]; omega
    refine ⟨by simp [stepOf, h.ls], h.lt, fun x hx => h.inside x (hsub x hx), fun x hx => h.inv x (hsub x hx), ?_, ?_, ?_⟩
    · have e3 : (left.eraseIdx k).map Prod.fst = (left.map Prod.fst).eraseIdx k := by
        rw [List.eraseIdx_eq_take_drop_succ, List.eraseIdx_eq_take_drop_succ, List.map_append, List.map_take, List.map_drop]
      rw [e3]
      exact h.dests.eraseIdx k
    · intro x hx
      have hx0 := h.inside x (hsub x hx)
      rw [h.due x (hsub x hx), stepOf, getD_set_ne]
      intro he
      exact hfn x (hsub x hx) (by omega)
    · intro r hr hno
      by_cases hrm : (r : Int) = m.1
      · have hrn : m.1.toNat = r := by omega
        rw [stepOf, hrn, getD_set_self (by omega), ← h.due m hmem, hrn]
      · rw [stepOf, getD_set_ne (by omega)]
        refine h.done r hr (fun x hx he => ?_)
        rcases hsup x hx with hx' | rfl
        · exact hno x hx' he
        · exact hrm he.symm
  | none =>
    obtain ⟨m0, rest, rfl⟩ := List.exists_cons_of_ne_nil hne
    have hnf := freeAt_none hf
    have e1 : (ordStep spare (m0 :: rest) out).1 = (m0 :: rest).map (swapTo spare m0.1) := by simp [ordStep, hf]
    have e2 : (ordStep spare (m0 :: rest) out).2 = out ++ [(spare, m0.1)] := by simp [ordStep, hf]
    obtain ⟨hi0, hi1, hi2, hi3⟩ := h.inside m0 (by simp)
    have hcov : ∀ x ∈ (m0 :: rest).map Prod.snd, x ∈ (m0 :: rest).map Prod.fst := by
      refine covered h.dests (fun x hx => ?_) (by simp)
      obtain ⟨m, hm, rfl⟩ := List.mem_map.1 hx
      obtain ⟨o, ho, he⟩ := not_free (hnf m hm)
      exact List.mem_map.2 ⟨o, ho, he⟩
    have hnosp : ∀ m ∈ m0 :: rest, m.2 ≠ spare := by
      intro m hm he
      obtain ⟨o, ho, he2⟩ := List.mem_map.1 (hcov m.2 (List.mem_map.2 ⟨m, hm, rfl⟩))
      exact (h.inv o ho).2 (he2.trans he)
    have hfst : ∀ m, (swapTo spare m0.1 m).1 = m.1 := fun m => by unfold swapTo; split <;> rfl
    have hlen : spare.toNat < s.length := by rw [h.ls]; omega
    refine ⟨(spare, m0.1), e2, hsp0, hspn, hi0, hi1, ?_⟩
    rw [e1]
    refine ⟨by simp [stepOf, h.ls], h.lt, ?_, ?_, ?_, ?_, ?_⟩
    · intro x hx
      obtain ⟨m, hm, rfl⟩ := List.mem_map.1 hx
      obtain ⟨h0, h1, h2, h3⟩ := h.inside m hm
      unfold swapTo
      split
      · exact ⟨h0, h1, hsp0, hspn⟩
      · exact ⟨h0, h1, h2, h3⟩
    · intro x hx
      obtain ⟨m, hm, rfl⟩ := List.mem_map.1 hx
      have h1 := h.inv m hm
      unfold swapTo
      split
      · exact ⟨h1.2, h1.2⟩
      · exact h1
    · have e3 : ((m0 :: rest).map (swapTo spare m0.1)).map Prod.fst = (m0 :: rest).map Prod.fst := by
        rw [List.map_map]
        exact List.map_congr_left (fun m _ => hfst m)
      rw [e3]
      exact h.dests
    · intro x hx
      obtain ⟨m, hm, rfl⟩ := List.mem_map.1 hx
      have h0 := h.inside m hm
      rw [hfst, h.due m hm]
      unfold swapTo
      split
      · rename_i he
        rw [stepOf, getD_set_self hlen, he]
      · rw [stepOf, getD_set_ne]
        intro he
        exact hnosp m hm (by simp at he; omega)
    · intro r hr hno
      rw [stepOf, getD_set_ne (by simp; omega)]
      refine h.done r hr (fun m hm he => hno _ (List.mem_map.2 ⟨m, hm, rfl⟩) (by rw [hfst]; exact he))

/-- All of them, done. -/
theorem half_end {spare : Int} {n : Nat} (hsp : 0 ≤ spare ∧ spare < n) (vals t : List Int) : ∀ (F : Nat) (left out : List (Int × Int)), ordMeas left ≤ F → Half spare n left (doSeq (out.map enc) vals) t → (∀ m ∈ out, 0 ≤ m.1 ∧ m.1 < n ∧ 0 ≤ m.2 ∧ m.2 < n) →
    Half spare n [] (doSeq ((ordEnd spare F left out).map enc) vals) t ∧ (∀ m ∈ ordEnd spare F left out, 0 ≤ m.1 ∧ m.1 < n ∧ 0 ≤ m.2 ∧ m.2 < n) := by
  intro F
  induction F with
  | zero =>
    intro left out hm h hall
    have hl : left = [] := by
      cases left with
      | nil => rfl
      | cons a l => unfold ordMeas at hm; simp at hm
    subst hl
    exact ⟨h, hall⟩
  | succ F ih =>
    intro left out hm h hall
    rw [ordEnd]
    split
    · rename_i he
      subst he
      exact ⟨h, hall⟩
    · rename_i hne
      obtain ⟨F', hF, hm', _, _⟩ := ord_round (spare := spare) (out := out) (R := ordEnd spare (F + 1) left out) hne h.inv hm rfl
      obtain rfl : F = F' := by omega
      obtain ⟨m, he, h0, h1, h2, h3, hh⟩ := half_step (out := out) h hne hsp
      refine ih _ _ hm' ?_ ?_
      · rw [he, List.map_append]
        have e4 : doSeq (out.map enc ++ [m].map enc) vals = stepOf (doSeq (out.map enc) vals) m := by
          rw [doSeq, List.foldl_append]
          rfl
        rw [e4]
        exact hh
      · rw [he]
        intro x hx
        rcases List.mem_append.1 hx with hx | hx
        · exact hall x hx
        · simp at hx
          subst hx
          exact ⟨h0, h1, h2, h3⟩

theorem pairs_mem {xss : List (List Int)} (hm : ∀ x ∈ xss, isMove x = true) {m : Int × Int} (h : m ∈ pairs xss) : enc m ∈ xss ∧ m.1 ≠ m.2 ∧ 0 ≤ m.1 ∧ m.1 ≤ 299 ∧ 0 ≤ m.2 ∧ m.2 ≤ 299 := by
  unfold pairs at h
  rw [List.mem_filter] at h
  obtain ⟨h1, h2⟩ := h
  obtain ⟨x, hx, rfl⟩ := List.mem_map.1 h1
  obtain ⟨i, j, rfl, hi, hj⟩ := isMove_cases (hm x hx)
  refine ⟨hx, by simpa using h2, ?_, ?_, ?_, ?_⟩ <;> simp <;> omega
theorem pairs_dests {xss : List (List Int)} (hn : (xss.map to).Nodup) : ((pairs xss).map Prod.fst).Nodup := by
  have h1 : (xss.map (fun m => m.getD 0 0)).Nodup := by
    rw [List.nodup_iff_pairwise_ne, List.pairwise_map] at hn ⊢
    refine List.Pairwise.imp (fun {x y} hne he => hne ?_) hn
    unfold to
    rw [he]
  unfold pairs
  have e : ((xss.map (fun m => (m.getD 0 0, m.getD 1 0))).filter (fun m => decide (m.1 ≠ m.2))).map Prod.fst = ((xss.filter (fun m => decide (m.getD 0 0 ≠ m.getD 1 0))).map (fun m => m.getD 0 0)) := by
    rw [List.filter_map, List.map_map]
    rfl
  rw [e]
  exact List.Nodup.sublist (List.Sublist.map _ List.filter_sublist) h1

/-- The law of chapter 14. -/
theorem order_sound {xss : List (List Int)} {vals : List Int} {spare : Int} (hm : ∀ x ∈ xss, isMove x = true) (hn : (xss.map to).Nodup) (hsp : 0 ≤ spare ∧ spare ≤ 299) (hnm : OrdInv spare (pairs xss)) (hl : vals.length = 300) :
    (doSeq ((ordRes spare (pairs xss)).map enc) vals).set spare.toNat 0 = (doAt xss vals).set spare.toNat 0 ∧ (∀ m ∈ ordRes spare (pairs xss), 0 ≤ m.1 ∧ m.1 < 300 ∧ 0 ≤ m.2 ∧ m.2 < 300) := by
  have hh : Half spare 300 (pairs xss) (doSeq (([] : List (Int × Int)).map enc) vals) (doAt xss vals) := by
    refine ⟨hl, by rw [doAt_length]; exact hl, fun m h => ?_, hnm, pairs_dests hn, fun m h => ?_, fun r hr hno => ?_⟩
    · have := pairs_mem hm h; omega
    · obtain ⟨hx, _, h0, h1, h2, h3⟩ := pairs_mem hm h
      obtain ⟨k, hk⟩ := List.getElem?_of_mem hx
      have hk' : xss[k]? = some [((m.1.toNat : Nat) : Int), ((m.2.toNat : Nat) : Int)] := by
        rw [hk, enc, Int.toNat_of_nonneg h0, Int.toNat_of_nonneg h2]
      have h4 := doAt_at vals xss vals k m.1.toNat m.2.toNat hn hk' (by omega)
      show (doAt xss vals).getD _ _ = vals.getD _ _
      rw [List.getD_eq_getElem?_getD]
      rw [show (xss.foldl (stepAt vals) vals) = doAt xss vals from rfl] at h4
      rw [h4]
      rfl
    · show vals.getD r 0 = (doAt xss vals).getD r 0
      by_cases hto : ∀ m ∈ xss, to m ≠ r
      · have h4 := doAt_other vals xss vals r hto
        rw [show (xss.foldl (stepAt vals) vals) = doAt xss vals from rfl] at h4
        rw [List.getD_eq_getElem?_getD, List.getD_eq_getElem?_getD, h4]
      · have : ∃ m ∈ xss, to m = r := by
          refine Classical.byContradiction (fun hc => hto (fun m hm' he => hc ⟨m, hm', he⟩))
        obtain ⟨x, hx, he⟩ := this
        obtain ⟨i, j, rfl, hi, hj⟩ := isMove_cases (hm x hx)
        have hir : i = r := by simpa [to] using he
        subst hir
        by_cases hij : i = j
        · subst hij
          obtain ⟨k, hk⟩ := List.getElem?_of_mem hx
          have h4 := doAt_at vals xss vals k i i hn hk (by omega)
          rw [show (xss.foldl (stepAt vals) vals) = doAt xss vals from rfl] at h4
          rw [List.getD_eq_getElem?_getD (l := doAt xss vals), h4]
          rfl
        · exfalso
          refine hno ((i : Int), (j : Int)) ?_ rfl
          unfold pairs
          rw [List.mem_filter]
          exact ⟨List.mem_map.2 ⟨_, hx, rfl⟩, by simp; omega⟩
  obtain ⟨he, hall⟩ := half_end (n := 300) ⟨hsp.1, by omega⟩ vals (doAt xss vals) (2 * (pairs xss).length + 1) (pairs xss) [] (ordMeas_le _) hh (by simp)
  refine ⟨?_, hall⟩
  apply List.ext_getElem?
  intro r
  by_cases hr : spare.toNat = r
  · subst hr
    rw [List.getElem?_set_self (by have := he.ls; show _ < (doSeq ((ordEnd spare (2 * (pairs xss).length + 1) (pairs xss) []).map enc) vals).length; omega), List.getElem?_set_self (by have := he.lt; omega)]
  · rw [List.getElem?_set_ne hr, List.getElem?_set_ne hr]
    have h5 := he.done r (by omega) (by simp)
    have l1 := he.ls
    have l2 := he.lt
    show (doSeq ((ordEnd spare (2 * (pairs xss).length + 1) (pairs xss) []).map enc) vals)[r]? = _
    by_cases hlt : r < 300
    · rw [List.getD_eq_getElem?_getD, List.getD_eq_getElem?_getD, List.getElem?_eq_getElem (by omega), List.getElem?_eq_getElem (by omega)] at h5
      rw [List.getElem?_eq_getElem (by omega), List.getElem?_eq_getElem (by omega)]
      simpa using h5
    · rw [List.getElem?_eq_none (by omega), List.getElem?_eq_none (by omega)]

end Go.Proofs.Ythadaohnanpmiaa
