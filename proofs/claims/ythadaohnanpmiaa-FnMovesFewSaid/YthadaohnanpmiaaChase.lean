/-
  Plain law: how many moves ordering takes does not hang on which register is spare; how a program that chases the moves counts the rings.
-/
import Derived.Test.YthadaohnanpmiaaRings
namespace Go.Proofs.Ythadaohnanpmiaa
open Go.RowKit

def ren (s1 s2 x : Int) : Int := if x = s1 then s2 else x
def renM (s1 s2 : Int) (m : Int × Int) : Int × Int := (m.1, ren s1 s2 m.2)
theorem findIdx?_same {α : Type} {p q : α → Bool} : ∀ {l : List α}, (∀ m ∈ l, p m = q m) → l.findIdx? p = l.findIdx? q
  | [], _ => rfl
  | a :: l, h => by
    rw [List.findIdx?_cons, List.findIdx?_cons, h a (by simp), findIdx?_same (fun m hm => h m (by simp [hm]))]
theorem freeAt_ren {s1 s2 : Int} {left : List (Int × Int)} (h : ∀ m ∈ left, m.1 ≠ s1 ∧ m.1 ≠ s2) : freeAt (left.map (renM s1 s2)) = freeAt left := by
  unfold freeAt
  rw [List.findIdx?_map]
  refine findIdx?_same (fun m hm => ?_)
  show isFree (left.map (renM s1 s2)) (renM s1 s2 m) = isFree left m
  unfold isFree
  rw [List.all_map]
  apply Bool.eq_iff_iff.2
  rw [List.all_eq_true, List.all_eq_true]
  have hm' := h m hm
  have key : ∀ o : Int × Int, (ren s1 s2 o.2 = m.1 ↔ o.2 = m.1) := by
    intro o
    unfold ren
    split
    · rename_i e
      rw [e]
      exact ⟨fun e2 => absurd e2.symm hm'.2, fun e2 => absurd e2.symm hm'.1⟩
    · exact Iff.rfl
  constructor
  · intro h1 o ho
    have h2 : (!decide (ren s1 s2 o.2 = m.1)) = true := h1 o ho
    simp only [Bool.not_eq_true', decide_eq_false_iff_not] at h2 ⊢
    exact fun e => h2 ((key o).2 e)
  · intro h1 o ho
    show (!decide (ren s1 s2 o.2 = m.1)) = true
    have h2 := h1 o ho
    simp only [Bool.not_eq_true', decide_eq_false_iff_not] at h2 ⊢
    exact fun e => h2 ((key o).1 e)
theorem swap_ren {s1 s2 r : Int} (h1 : r ≠ s1) (h2 : r ≠ s2) (m : Int × Int) : swapTo s2 r (renM s1 s2 m) = renM s1 s2 (swapTo s1 r m) := by
  obtain ⟨x, y⟩ := m
  by_cases hy : y = r
  · have e1 : swapTo s1 r (x, y) = (x, s1) := by unfold swapTo; rw [if_pos hy]
    have e2 : renM s1 s2 (x, y) = (x, y) := by unfold renM ren; rw [if_neg (by rw [hy]; exact h1)]
    have e3 : renM s1 s2 (x, s1) = (x, s2) := by unfold renM ren; rw [if_pos rfl]
    rw [e1, e2, e3]
    unfold swapTo
    rw [if_pos hy]
  · have e1 : swapTo s1 r (x, y) = (x, y) := by unfold swapTo; rw [if_neg hy]
    rw [e1]
    by_cases hs : y = s1
    · have e2 : renM s1 s2 (x, y) = (x, s2) := by unfold renM ren; rw [if_pos hs]
      rw [e2]
      unfold swapTo
      rw [if_neg (fun e => h2 e.symm)]
    · have e2 : renM s1 s2 (x, y) = (x, y) := by unfold renM ren; rw [if_neg hs]
      rw [e2]
      show swapTo s2 r (x, y) = (x, y)
      unfold swapTo
      rw [if_neg hy]
theorem order_ren {s1 s2 : Int} (h12 : s1 ≠ s2) : ∀ (F : Nat) (left out1 out2 : List (Int × Int)), (∀ m ∈ left, m.1 ≠ s1 ∧ m.1 ≠ s2 ∧ m.2 ≠ s2) → out1.length = out2.length →
    (ordEnd s1 F left out1).length = (ordEnd s2 F (left.map (renM s1 s2)) out2).length := by
  intro F
  induction F with
  | zero => intro left out1 out2 _ h; simpa [ordEnd] using h
  | succ F ih =>
    intro left out1 out2 h hl
    rw [ordEnd, ordEnd]
    by_cases hne : left = []
    · subst hne
      simpa using hl
    · rw [if_neg hne, if_neg (by simpa using hne)]
      have hfr := freeAt_ren (fun m hm => ⟨(h m hm).1, (h m hm).2.1⟩)
      cases hf : freeAt left with
      | some k =>
        rw [hf] at hfr
        obtain ⟨m, hk, _, _⟩ := freeAt_some hf
        have e1 : ordStep s1 left out1 = (left.eraseIdx k, out1 ++ [m]) := by simp [ordStep, hf, hk]
        have e2 : ordStep s2 (left.map (renM s1 s2)) out2 = ((left.eraseIdx k).map (renM s1 s2), out2 ++ [renM s1 s2 m]) := by
          have e3 : (left.map (renM s1 s2)).eraseIdx k = (left.eraseIdx k).map (renM s1 s2) := by
            rw [List.eraseIdx_eq_take_drop_succ, List.eraseIdx_eq_take_drop_succ, List.map_append, List.map_take, List.map_drop]
          simp [ordStep, hfr, e3, hk]
        rw [e1, e2]
        exact ih _ _ _ (fun x hx => h x (List.mem_of_mem_eraseIdx hx)) (by simp [hl])
      | none =>
        rw [hf] at hfr
        obtain ⟨m0, rest, rfl⟩ := List.exists_cons_of_ne_nil hne
        have hm0 := h m0 (by simp)
        have e1 : ordStep s1 (m0 :: rest) out1 = ((m0 :: rest).map (swapTo s1 m0.1), out1 ++ [(s1, m0.1)]) := by simp [ordStep, hf]
        have e2 : ordStep s2 ((m0 :: rest).map (renM s1 s2)) out2 = (((m0 :: rest).map (swapTo s1 m0.1)).map (renM s1 s2), out2 ++ [(s2, m0.1)]) := by
          have e3 : ((m0 :: rest).map (renM s1 s2)).map (swapTo s2 m0.1) = ((m0 :: rest).map (swapTo s1 m0.1)).map (renM s1 s2) := by
            rw [List.map_map, List.map_map]
            exact List.map_congr_left (fun m _ => swap_ren hm0.1 hm0.2.1 m)
          unfold ordStep
          rw [hfr]
          show (((m0 :: rest).map (renM s1 s2)).map (swapTo s2 (((m0 :: rest).map (renM s1 s2)).headD (0, 0)).1), _) = _
          have e4 : (((m0 :: rest).map (renM s1 s2)).headD (0, 0)).1 = m0.1 := rfl
          rw [e4, e3]
        rw [e1, e2]
        refine ih _ _ _ (fun x hx => ?_) (by simp [hl])
        obtain ⟨m, hm, rfl⟩ := List.mem_map.1 hx
        have hmm := h m hm
        unfold swapTo
        split
        · exact ⟨hmm.1, hmm.2.1, h12⟩
        · exact hmm

/-- What the program's chase of a move comes to: where it stands, the least register that it met. -/
def chase (ps : List (Int × Int)) (m : Int × Int) : Nat → Int × Int → Int × Int
  | 0, s => s
  | j + 1, s => if s.1 = m.1 then s else match nxt ps s.1 with
    | none => s
    | some y => chase ps m j (y, min s.2 s.1)
def counted (ps : List (Int × Int)) (N : Nat) (m : Int × Int) : Bool := decide ((chase ps m N (m.2, m.1)).1 = m.1 ∧ (chase ps m N (m.2, m.1)).2 = m.1)
theorem chase_leads {ps : List (Int × Int)} {m : Int × Int} : ∀ (k N : Nat) (x : Int), k ≤ N → walkN ps k x = some m.1 → (∀ i, i ≤ k → ∀ z, walkN ps i x = some z → m.1 ≤ z) → (∀ i, i < k → walkN ps i x ≠ some m.1) →
    chase ps m N (x, m.1) = (m.1, m.1)
  | 0, N, x, _, hk, _, _ => by
    have hx : x = m.1 := Option.some.inj hk
    subst hx
    cases N with
    | zero => rfl
    | succ N => unfold chase; rw [if_pos rfl]
  | k + 1, 0, x, h, _, _, _ => by omega
  | k + 1, N + 1, x, h, hk, hle, hne => by
    have hx : x ≠ m.1 := fun e => hne 0 (by omega) (by rw [e]; rfl)
    have hk' := hk
    change (nxt ps x).bind (walkN ps k) = some m.1 at hk'
    unfold chase
    rw [if_neg hx]
    cases hz : nxt ps x with
    | none => rw [hz] at hk'; cases hk'
    | some y =>
      rw [hz] at hk'
      have hcons : ∀ i, walkN ps (i + 1) x = walkN ps i y := by
        intro i
        show (nxt ps x).bind (walkN ps i) = _
        rw [hz]
        rfl
      have hmin : min m.1 x = m.1 := by
        have := hle 0 (by omega) x rfl
        omega
      show chase ps m N (y, min m.1 x) = (m.1, m.1)
      rw [hmin]
      exact chase_leads k N y (by omega) hk' (fun i hi z hz' => hle (i + 1) (by omega) z (by rw [hcons]; exact hz')) (fun i hi => by rw [← hcons]; exact hne (i + 1) (by omega))

/-- A leader is counted. -/
theorem counted_of_leader {ps : List (Int × Int)} {m : Int × Int} {N : Nat} (hN : ps.length ≤ N) (hl : Leader ps m) : counted ps N m = true := by
  obtain ⟨k0, hk0, hle0⟩ := hl
  -- the first time
  have hfirst : ∀ k, walkN ps k m.2 = some m.1 → ∃ q, q ≤ k ∧ walkN ps q m.2 = some m.1 ∧ ∀ i, i < q → walkN ps i m.2 ≠ some m.1 := by
    intro k
    induction k using Nat.strongRecOn with
    | _ k ih =>
      intro hk
      by_cases hex : ∃ i, i < k ∧ walkN ps i m.2 = some m.1
      · obtain ⟨i, hi, hw⟩ := hex
        obtain ⟨q, hq, h1, h2⟩ := ih i hi hw
        exact ⟨q, by omega, h1, h2⟩
      · exact ⟨k, Nat.le_refl _, hk, fun i hi hw => hex ⟨i, hi, hw⟩⟩
  obtain ⟨k, hkk, hk, hne⟩ := hfirst k0 hk0
  have hle : ∀ i, i ≤ k → ∀ z, walkN ps i m.2 = some z → m.1 ≤ z := fun i hi => hle0 i (by omega)
  -- the registers ahead of it are different ones, and moved to
  have hval : ∀ i, i < k → ∃ z, walkN ps i m.2 = some z ∧ z ∈ ps.map Prod.fst := by
    intro i hi
    obtain ⟨z, hz, hzr⟩ := walkN_pre hk (Nat.le_of_lt hi)
    refine ⟨z, hz, ?_⟩
    obtain ⟨d, hd⟩ : ∃ d, k - i = d + 1 := ⟨k - i - 1, by omega⟩
    rw [hd] at hzr
    change (nxt ps z).bind (walkN ps d) = some m.1 at hzr
    cases hn : nxt ps z with
    | none => rw [hn] at hzr; cases hzr
    | some y => exact List.mem_map.2 ⟨(z, y), nxt_mem hn, rfl⟩
  have hdiff : ∀ i j, i < j → j < k → walkN ps i m.2 ≠ walkN ps j m.2 := by
    intro i j hij hjk he
    obtain ⟨z, hz, hzr⟩ := walkN_pre hk (Nat.le_of_lt hjk)
    rw [hz] at he
    refine hne (i + (k - j)) (by omega) ?_
    rw [walkN_add, he]
    exact hzr
  have hkN : k ≤ ps.length := by
    have hnd : ((List.range k).map (fun i => (walkN ps i m.2).getD 0)).Nodup := by
      rw [List.nodup_iff_pairwise_ne, List.pairwise_map]
      refine List.Pairwise.imp_of_mem ?_ (List.pairwise_lt_range (n := k))
      intro i j hi hj hlt he
      obtain ⟨z, hz, _⟩ := hval i (List.mem_range.1 hi)
      obtain ⟨z', hz', _⟩ := hval j (List.mem_range.1 hj)
      refine hdiff i j hlt (List.mem_range.1 hj) ?_
      rw [hz, hz'] at he ⊢
      simp at he
      rw [he]
    have h1 := hnd.length_le_of_subset (l₂ := ps.map Prod.fst) (by
      intro x hx
      obtain ⟨i, hi, rfl⟩ := List.mem_map.1 hx
      obtain ⟨z, hz, hzm⟩ := hval i (List.mem_range.1 hi)
      rw [hz]
      exact hzm)
    simpa using h1
  have hc := chase_leads k N m.2 (by omega) hk hle hne
  rw [counted, hc]
  simp

theorem rings_counted (ps : List (Int × Int)) {N : Nat} (hN : ps.length ≤ N) : rings ps ≤ ps.countP (counted ps N) := by
  classical
  unfold rings
  refine List.countP_mono_left (fun m _ hm => ?_)
  exact counted_of_leader hN (by simpa using hm)

/-- How many moves that takes, or -1. -/
noncomputable def mnRes (xss : List (List Int)) : Int := if onceAll xss = true then ((ordRes 300 (pairs xss)).length : Int) else -1
theorem ordRes_any_spare {ps : List (Int × Int)} {s1 s2 : Int} (h12 : s1 ≠ s2) (h : ∀ m ∈ ps, m.1 ≠ s1 ∧ m.2 ≠ s1 ∧ m.1 ≠ s2 ∧ m.2 ≠ s2) : (ordRes s1 ps).length = (ordRes s2 ps).length := by
  have e : ps.map (renM s1 s2) = ps := by
    have : ∀ m ∈ ps, renM s1 s2 m = id m := by
      intro m hm
      obtain ⟨x, y⟩ := m
      have h1 := (h _ hm).2.1
      unfold renM ren
      rw [if_neg h1]
      rfl
    rw [List.map_congr_left this, List.map_id]
  unfold ordRes
  rw [order_ren h12 _ ps [] [] (fun m hm => ⟨(h m hm).1, (h m hm).2.2.1, (h m hm).2.2.2⟩) rfl, e]

end Go.Proofs.Ythadaohnanpmiaa
