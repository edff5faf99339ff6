/-
  The tree of nearest dominators from above: each block ahead of those that it rules.
-/
import Derived.Test.YtclihjgojmfjiaaKids
namespace Go.Proofs.Ytclihjgojmfjiaa
open Go.RowKit

/-- The parent as a function of all ints. -/
def upOf (p : Nat → Int) (n : Nat) (z : Int) : Int := if 0 ≤ z ∧ z < n then p z.toNat else -1
/-- The parent k times. -/
def upN (p : Nat → Int) (n : Nat) : Nat → Int → Int
  | 0, z => z
  | k + 1, z => upN p n k (upOf p n z)
def kidL (p : Nat → Int) (n : Nat) (b : Int) : List Int := filtTo (fun i => p i == b) n
def down (p : Nat → Int) (n : Nat) : Nat → Int → List Int
  | 0, _ => []
  | f + 1, b => b :: (kidL p n b).flatMap (down p n f)
/-- The fuel reaches all that lies below b. -/
def DeepEnough (p : Nat → Int) (n : Nat) : Nat → Int → Prop
  | 0, _ => False
  | f + 1, b => ∀ k ∈ kidL p n b, DeepEnough p n f k

section
variable {p : Nat → Int} {n : Nat}
theorem upN_add (m k : Nat) (z : Int) : upN p n (k + m) z = upN p n m (upN p n k z) := by
  induction k generalizing z with
  | zero => rw [Nat.zero_add]; rfl
  | succ k ih => rw [Nat.succ_add]; exact ih _
theorem upN_neg (k : Nat) : upN p n k (-1) = -1 := by
  induction k with
  | zero => rfl
  | succ k ih => rw [upN, upOf, if_neg (by omega)]; exact ih
theorem kidL_mem {b x : Int} (h : x ∈ kidL p n b) : 0 ≤ x ∧ x < n ∧ upOf p n x = b := by
  simp only [kidL, filtTo, List.mem_map, List.mem_filter, List.mem_range, beq_iff_eq] at h
  obtain ⟨i, ⟨h1, h2⟩, rfl⟩ := h
  refine ⟨by omega, by omega, ?_⟩
  rw [upOf, if_pos ⟨by omega, by omega⟩, Int.toNat_natCast]
  exact h2
theorem kidL_nodup (b : Int) : (kidL p n b).Pairwise (· ≠ ·) := by
  unfold kidL filtTo
  rw [List.pairwise_map]
  exact (List.Pairwise.filter _ List.pairwise_lt_range).imp (fun h => by omega)
theorem up_once (h0 : upOf p n 0 = -1) {k k' : Nat} {z : Int} (h : upN p n k z = 0) (h' : upN p n k' z = 0) : k = k' := by
  have key : ∀ a d : Nat, upN p n a z = 0 → upN p n (a + (d + 1)) z = 0 → False := by
    intro a d h1 h2
    rw [upN_add, h1, upN, h0, upN_neg] at h2
    omega
  rcases Nat.lt_trichotomy k k' with hl | hl | hl
  · obtain ⟨d, rfl⟩ : ∃ d, k' = k + (d + 1) := ⟨k' - k - 1, by omega⟩
    exact (key k d h h').elim
  · exact hl
  · obtain ⟨d, rfl⟩ : ∃ d, k = k' + (d + 1) := ⟨k - k' - 1, by omega⟩
    exact (key k' d h' h).elim
theorem up_most (h0 : upOf p n 0 = -1) : ∀ m : Nat, ∃ N : Nat, ∀ z : Int, 0 ≤ z → z < m → ∀ k, upN p n k z = 0 → k ≤ N := by
  intro m
  induction m with
  | zero => exact ⟨0, fun z h1 h2 => by omega⟩
  | succ m ih =>
    obtain ⟨N, hN⟩ := ih
    by_cases hex : ∃ k, upN p n k (m : Int) = 0
    · obtain ⟨k0, hk0⟩ := hex
      refine ⟨N + k0, fun z h1 h2 k hk => ?_⟩
      by_cases hz : z = (m : Int)
      · subst hz
        have := up_once h0 hk hk0
        omega
      · have := hN z h1 (by omega) k hk
        omega
    · refine ⟨N, fun z h1 h2 k hk => ?_⟩
      by_cases hz : z = (m : Int)
      · subst hz; exact (hex ⟨k, hk⟩).elim
      · exact hN z h1 (by omega) k hk
theorem deep_of {N : Nat} (hN : ∀ z : Int, 0 ≤ z → z < n → ∀ k, upN p n k z = 0 → k ≤ N) : ∀ (f d : Nat) (b : Int), 0 ≤ b → b < n → upN p n d b = 0 → N < d + f → DeepEnough p n f b
  | 0, d, b, h1, h2, h3, h4 => by have := hN b h1 h2 d h3; omega
  | f + 1, d, b, h1, h2, h3, h4 => fun k hk => by
    obtain ⟨k1, k2, k3⟩ := kidL_mem hk
    exact deep_of hN f (d + 1) k k1 k2 (by rw [upN, k3]; exact h3) (by omega)
theorem deep_ex (h0 : upOf p n 0 = -1) (hn : 0 < n) : ∃ f, DeepEnough p n f 0 := by
  obtain ⟨N, hN⟩ := up_most h0 n
  exact ⟨N + 1, deep_of hN (N + 1) 0 0 (by omega) (by omega) rfl (by omega)⟩
theorem down_mem : ∀ (f : Nat) (b x : Int), 0 ≤ b → b < n → x ∈ down p n f b → (0 ≤ x ∧ x < n) ∧ ∃ k, upN p n k x = b
  | 0, b, x, _, _, h => by simp [down] at h
  | f + 1, b, x, hb, hn, h => by
    simp only [down, List.mem_cons, List.mem_flatMap] at h
    rcases h with rfl | ⟨y, hy, hx⟩
    · exact ⟨⟨hb, hn⟩, 0, rfl⟩
    · obtain ⟨y1, y2, y3⟩ := kidL_mem hy
      obtain ⟨hr, k, hk⟩ := down_mem f y x y1 y2 hx
      refine ⟨hr, k + 1, ?_⟩
      rw [upN_add, hk]
      exact y3
theorem down_nodup (h0 : upOf p n 0 = -1) : ∀ (f d : Nat) (b : Int), 0 ≤ b → b < n → upN p n d b = 0 → (down p n f b).Pairwise (· ≠ ·)
  | 0, _, _, _, _, _ => by simp [down]
  | f + 1, d, b, hb, hn, hd => by
    have hpath : ∀ y, y ∈ kidL p n b → ∀ x, x ∈ down p n f y → ∃ k, upN p n k x = y ∧ upN p n (k + (1 + d)) x = 0 := fun y hy x hx => by
      obtain ⟨y1, y2, y3⟩ := kidL_mem hy
      obtain ⟨_, k, hk⟩ := down_mem f y x y1 y2 hx
      refine ⟨k, hk, ?_⟩
      rw [upN_add, hk, upN_add]
      show upN p n d (upOf p n y) = 0
      rw [y3]; exact hd
    rw [down, List.pairwise_cons, List.pairwise_flatMap]
    refine ⟨fun x hx e => ?_, fun y hy => ?_, (kidL_nodup b).imp_of_mem (fun {y1 y2} h1 h2 hne x1 hx1 x2 hx2 e => ?_)⟩
    · subst e
      obtain ⟨y, hy, hx⟩ := List.mem_flatMap.1 hx
      obtain ⟨k, _, hk⟩ := hpath y hy _ hx
      have := up_once h0 hk hd
      omega
    · obtain ⟨y1, y2, y3⟩ := kidL_mem hy
      exact down_nodup h0 f (d + 1) y y1 y2 (by rw [upN, y3]; exact hd)
    · subst e
      obtain ⟨k1, e1, z1⟩ := hpath _ h1 _ hx1
      obtain ⟨k2, e2, z2⟩ := hpath _ h2 _ hx2
      have := up_once h0 z1 z2
      have : k1 = k2 := by omega
      subst this
      exact hne (e1.symm.trans e2)
end

theorem nodup_len : ∀ (n : Nat) (L : List Int), L.Pairwise (· ≠ ·) → (∀ x ∈ L, 0 ≤ x ∧ x < n) → L.length ≤ n
  | 0, L, _, h => by
    cases L with
    | nil => simp
    | cons a t => have := h a (by simp); omega
  | n + 1, L, hp, h => by
    have h1 := nodup_len n (L.filter (fun x => x != (n : Int))) (hp.filter _) (fun x hx => by
      obtain ⟨m1, m2⟩ := List.mem_filter.1 hx
      have := h x m1
      have : x ≠ (n : Int) := by simpa using m2
      omega)
    have h2 : L.countP (fun x => x == (n : Int)) ≤ 1 := by
      clear h h1
      induction L with
      | nil => simp
      | cons a t ih =>
        rw [List.pairwise_cons] at hp
        rw [List.countP_cons]
        by_cases ha : a = (n : Int)
        · have : t.countP (fun x => x == (n : Int)) = 0 := List.countP_eq_zero.2 (fun x hx => by
            have := hp.1 x hx
            simp; omega)
          simp [this]; split <;> omega
        · have := ih hp.2
          rw [if_neg (by simpa using ha)]; omega
    have h3 := List.length_eq_countP_add_countP (fun x => x == (n : Int)) (l := L)
    have h4 : L.countP (fun a => decide ¬((a == (n : Int)) = true)) = (L.filter (fun x => x != (n : Int))).length := by
      rw [List.countP_eq_length_filter]
      congr 1
      apply List.filter_congr
      intro x _
      simp only [bne]
      cases (x == (n : Int)) <;> rfl
    omega

/-! ### The tree of nearest dominators -/
theorem idomP_zero {g : List (List Int)} (hf : Fits g) : idomP g 0 = -1 := by
  rcases bestOf_range g (idomB g 0) g.length with h1 | ⟨m, _, h2, _⟩
  · exact h1
  · simp only [idomB, domB, Bool.and_eq_true, bne_iff_ne, ne_eq, Bool.not_eq_true'] at h2
    obtain ⟨hm, _, _, h4⟩ := h2
    rw [reachB_false] at h4
    exact (h4 (Reach.zero (by omega) hf.pos)).elim
theorem up_zero {g : List (List Int)} (hf : Fits g) : upOf (idomP g) g.length 0 = -1 := by
  have := hf.pos
  rw [upOf, if_pos ⟨by omega, by omega⟩]
  exact idomP_zero hf
open Classical in
noncomputable def deepOf (g : List (List Int)) : Nat := if h : ∃ f, DeepEnough (idomP g) g.length f 0 then Classical.choose h else 0
theorem deepOf_spec {g : List (List Int)} (hf : Fits g) : DeepEnough (idomP g) g.length (deepOf g) 0 := by
  have h := deep_ex (up_zero hf) hf.pos
  unfold deepOf
  rw [dif_pos h]
  exact Classical.choose_spec h
noncomputable def downOf (g : List (List Int)) : List Int := down (idomP g) g.length (deepOf g) 0
theorem downOf_len {g : List (List Int)} (hf : Fits g) : (downOf g).length ≤ g.length := by
  have := hf.pos
  exact nodup_len _ _ (down_nodup (up_zero hf) _ 0 0 (by omega) (by omega) rfl) (fun x hx => (down_mem _ _ _ (by omega) (by omega) hx).1)
noncomputable def downP (g : List (List Int)) : List Int := if fits g then downOf g else []
theorem downP_le {w : World} {ba : Option Addr} {g : List (List Int)} (h : Gr w ba g) : (downP g).length ≤ 1048576 := by
  have := h.len
  unfold downP
  cases hf : fits g with
  | false => simp
  | true => have := downOf_len (fits_iff.1 hf); simp; omega
theorem kidL_idoms (g : List (List Int)) (b : Int) : kidsOf (idoms g) b = kidL (idomP g) g.length b := kidsOf_idoms g b

end Go.Proofs.Ytclihjgojmfjiaa
