
/-
  ReadMins: both answer the same (plain).
-/
import Derived.Test.YtdkafajmhgfkoaaDoorRmImpl3
namespace Go.Proofs.YtdkafajmhgfkoaaDoor
open Go.RowKit

theorem names_nodup : ∀ a : Nat, a < 23 → ∀ b : Nat, b < 23 → nameL.getD a ⟨#[]⟩ = nameL.getD b ⟨#[]⟩ → a = b := by decide +kernel
theorem names_size : ∀ a : Nat, a < 23 → (nameL.getD a ⟨#[]⟩).size ≤ 6 := by decide +kernel
theorem words_size : ∀ a : Nat, a < 23 → (wordL.getD a ⟨#[]⟩).size ≤ 3 := by decide +kernel

theorem rmFind_at {ws : List ByteArray} {k : Nat} (h1 : 1 ≤ k) (h2 : k < 23) (hk : nameL.getD k ⟨#[]⟩ = ws.getD 0 ⟨#[]⟩) : ∀ f, f ≤ 22 → rmFind ws f = if 23 - f ≤ k then (specR k ws).map (fun xs => (k, xs)) else none
  | 0, _ => by rw [rmFind, if_neg (by omega)]
  | f + 1, hf => by
    have ih := rmFind_at h1 h2 hk f (by omega)
    rw [rmFind]
    by_cases he : 22 - f = k
    · rw [he, if_pos (show 23 - (f + 1) ≤ k by omega), specR]
      by_cases hl : ws.length = (wordL.getD k ⟨#[]⟩).size + 1
      · rw [if_pos ⟨hk, hl⟩, if_pos hl]
      · rw [if_neg (fun h => hl h.2), if_neg hl, ih, if_neg (by omega)]
        rfl
    · rw [if_neg (fun h => he (names_nodup _ (by omega) _ h2 (h.1.trans hk.symm))), ih]
      by_cases hle : 23 - f ≤ k
      · rw [if_pos hle, if_pos (by omega)]
      · rw [if_neg hle, if_neg (by omega)]
theorem rmFind_no {ws : List ByteArray} (h : ∀ k, 1 ≤ k → k < 23 → nameL.getD k ⟨#[]⟩ ≠ ws.getD 0 ⟨#[]⟩) : ∀ f, f ≤ 22 → rmFind ws f = none
  | 0, _ => rfl
  | f + 1, hf => by rw [rmFind, if_neg (fun hh => h (22 - f) (by omega) (by omega) hh.1), rmFind_no h f (by omega)]
theorem idxM_hit {α : Type} {p : α → Bool} : ∀ (rs : List α) (k : Nat), idxM p rs = (k : Int) → ∃ r, rs[k]? = some r ∧ p r = true
  | [], k, h => by simp [idxM] at h
  | r :: rs, k, h => by
    unfold idxM at h
    split at h
    · rename_i hp
      obtain rfl : k = 0 := by omega
      exact ⟨r, rfl, hp⟩
    · split at h
      · omega
      · cases k with
        | zero => omega
        | succ k =>
          obtain ⟨r', h1, h2⟩ := idxM_hit (p := p) rs k (by omega)
          exact ⟨r', by simpa using h1, h2⟩
theorem idxM_miss {α : Type} {p : α → Bool} : ∀ (rs : List α), idxM p rs < 0 → ∀ r ∈ rs, p r = false
  | [], _, r, hr => by simp at hr
  | r :: rs, h, x, hx => by
    unfold idxM at h
    split at h
    · omega
    · rename_i hp
      split at h
      · rename_i hn
        rcases List.mem_cons.1 hx with rfl | hx
        · simpa using hp
        · exact idxM_miss rs hn x hx
      · omega
theorem name_get {k : Nat} {r : ByteArray} (h : nameL[k]? = some r) : nameL.getD k ⟨#[]⟩ = r ∧ k < 23 := by
  rw [List.getD_eq_getElem?_getD, h]
  exact ⟨rfl, (List.getElem?_eq_some_iff.1 h).1⟩
theorem rmI_eq {ws : List ByteArray} (hl : 1 ≤ ws.length) : rmI ws = rmFind ws 22 := by
  obtain ⟨w0, ws', rfl⟩ : ∃ w0 ws', ws = w0 :: ws' := by
    cases ws with
    | nil => simp at hl
    | cons a b => exact ⟨a, b, rfl⟩
  have hrg := idxM_range (p := fun nm : ByteArray => nm.toList == ((w0 :: ws').getD 0 ⟨#[]⟩).toList) nameL
  by_cases h1 : idxW (w0 :: ws') < 1
  · rw [rmI, if_pos h1, rmFind_no _ 22 (Nat.le_refl _)]
    intro k hk1 hk2 he
    by_cases h0 : idxW (w0 :: ws') < 0
    · have hm := idxM_miss nameL h0 (nameL.getD k ⟨#[]⟩) (by
        rw [List.getD_eq_getElem?_getD, List.getElem?_eq_getElem (show k < nameL.length from hk2)]
        exact List.getElem_mem _)
      rw [he] at hm
      simp at hm
    · have hz : idxW (w0 :: ws') = ((0 : Nat) : Int) := by omega
      obtain ⟨r, hr, hp⟩ := idxM_hit nameL 0 hz
      obtain ⟨hg, -⟩ := name_get hr
      have := str_eq.1 hp
      have h2 := names_nodup k hk2 0 (by omega) (by rw [hg, he, this])
      omega
  · obtain ⟨k, hk⟩ := Int.eq_ofNat_of_zero_le (show 0 ≤ idxW (w0 :: ws') by omega)
    obtain ⟨r, hr, hp⟩ := idxM_hit nameL k hk
    obtain ⟨hg, hk2⟩ := name_get hr
    have hk1 : 1 ≤ k := by omega
    rw [rmI, if_neg h1, hk, rmFind_at hk1 hk2 (hg.trans (str_eq.1 hp)) 22 (Nat.le_refl _), if_pos (by omega)]
    rw [Int.toNat_natCast, impl_spec hk1 hk2]

theorem stS_fine (wd : ByteArray) (ws : List ByteArray) : ∀ (n : Nat) (xs : List Int), stS wd ws n = some xs → ∀ i, i < n → 0 ≤ numB (ws.getD (i + 1) ⟨#[]⟩)
  | 0, _, _, i, hi => by omega
  | n + 1, xs, h, i, hi => by
    rw [stS] at h
    cases h1 : stS wd ws n with
    | none => rw [h1] at h; cases h
    | some ys =>
      rw [h1] at h
      simp only at h
      split at h
      · rename_i hv
        by_cases he : i = n
        · subst he; exact hv
        · exact stS_fine wd ws n ys h1 i (by omega)
      · cases h
theorem cutS_lists (s : ByteArray) : (cutS s).map (·.data.toList) = cutL s.data.toList := by
  rw [cutS, List.map_map]
  have : ((fun b : ByteArray => b.data.toList) ∘ fun l : List UInt8 => (⟨l.toArray⟩ : ByteArray)) = id := by
    funext l
    simp
  rw [this, List.map_id]
theorem rmFind_small {s : ByteArray} (h : rmFind (cutS s) 22 ≠ none) : s.size ≤ 40 := by
  have hl := cutS_ne s
  have hlen := lens_cut s.data.toList
  rw [← cutS_lists, len_data] at hlen
  by_cases hx : ∃ k, 1 ≤ k ∧ k < 23 ∧ nameL.getD k ⟨#[]⟩ = (cutS s).getD 0 ⟨#[]⟩
  · obtain ⟨k, hk1, hk2, he⟩ := hx
    rw [rmFind_at hk1 hk2 he 22 (Nat.le_refl _), if_pos (by omega), specR] at h
    have hns := names_size k hk2
    have hws := words_size k hk2
    rw [he] at hns
    by_cases hlw : (cutS s).length = (wordL.getD k ⟨#[]⟩).size + 1
    · rw [if_pos hlw] at h
      cases hst : stS (wordL.getD k ⟨#[]⟩) (cutS s) (wordL.getD k ⟨#[]⟩).size with
      | none => rw [hst] at h; exact absurd rfl h
      | some xs =>
        have hf := stS_fine _ _ _ _ hst
        have hf4 : ∀ i, i < (wordL.getD k ⟨#[]⟩).size → ((cutS s).getD (i + 1) ⟨#[]⟩).size ≤ 4 := fun i hi => (numB_small (hf i hi)).1
        generalize (wordL.getD k ⟨#[]⟩).size = m at hlw hws hf4
        generalize cutS s = ws at hlw hf4 hns hlen hl
        rcases ws with _ | ⟨w0, _ | ⟨w1, _ | ⟨w2, _ | ⟨w3, _ | ⟨w4, t⟩⟩⟩⟩⟩
        · simp at hl
        · simp [lens] at hlen hns
          have := len_data w0
          simp at this
          omega
        · have f1 := hf4 0 (by simp at hlw; omega)
          simp [lens] at hlen hns f1
          have a0 := len_data w0
          have a1 := len_data w1
          simp at a0 a1
          omega
        · have f1 := hf4 0 (by simp at hlw; omega)
          have f2 := hf4 1 (by simp at hlw; omega)
          simp [lens] at hlen hns f1 f2
          have a0 := len_data w0
          have a1 := len_data w1
          have a2 := len_data w2
          simp at a0 a1 a2
          omega
        · have f1 := hf4 0 (by simp at hlw; omega)
          have f2 := hf4 1 (by simp at hlw; omega)
          have f3 := hf4 2 (by simp at hlw; omega)
          simp [lens] at hlen hns f1 f2 f3
          have a0 := len_data w0
          have a1 := len_data w1
          have a2 := len_data w2
          have a3 := len_data w3
          simp at a0 a1 a2 a3
          omega
        · simp at hlw
          omega
    · rw [if_neg hlw] at h
      exact absurd rfl h
  · exact absurd (rmFind_no (fun k h1 h2 he => hx ⟨k, h1, h2, he⟩) 22 (Nat.le_refl _)) h
/-- Both answer the same. -/
theorem rm_same (s : ByteArray) : (if 40 < s.size then none else rmFind (cutS s) 22) = rmI (cutS s) := by
  rw [rmI_eq (cutS_ne s)]
  by_cases h : 40 < s.size
  · rw [if_pos h]
    cases hh : rmFind (cutS s) 22 with
    | none => rfl
    | some p => have := rmFind_small (s := s) (by rw [hh]; simp); omega
  · rw [if_neg h]
theorem rmFind_four {ws : List ByteArray} : ∀ (f : Nat) (p : Nat × List Int), rmFind ws f = some p → ∃ a b c d, p.2 = [a, b, c, d]
  | 0, p, h => by rw [rmFind] at h; cases h
  | f + 1, p, h => by
    rw [rmFind] at h
    split at h
    · cases hst : stS (wordL.getD (22 - f) ⟨#[]⟩) ws (wordL.getD (22 - f) ⟨#[]⟩).size with
      | none => rw [hst] at h; cases h
      | some xs =>
        rw [hst] at h
        obtain ⟨a, b, c, d, rfl⟩ := stS_four _ _ _ _ hst
        cases h
        exact ⟨a, b, c, d, rfl⟩
    · exact rmFind_four f p h
theorem out_five (ws : List ByteArray) (hl : 1 ≤ ws.length) : ∃ y0 y1 y2 y3 y4 : Int, outV (rmI ws) = [.int .i64 y0, .int .i64 y1, .int .i64 y2, .int .i64 y3, .int .i64 y4] := by
  rw [rmI_eq hl]
  cases h : rmFind ws 22 with
  | none => exact ⟨0, 0, 0, 0, 0, rfl⟩
  | some p =>
    obtain ⟨a, b, c, d, h2⟩ := rmFind_four 22 p h
    obtain ⟨op, xs⟩ := p
    simp only at h2
    subst h2
    exact ⟨_, _, _, _, _, rfl⟩

end Go.Proofs.YtdkafajmhgfkoaaDoor
