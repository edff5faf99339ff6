
/-
  ReadMins: what both compute (plain): a text cut at its blanks, the numbers of its words, the instruction.
-/
import Derived.Test.YtdkafajmhgfkoaaDoorMv6
import Derived.Lib.SplitLaws
import Derived.Lib.IndexBytes
import Derived.Lib.Atoi
namespace Go.Proofs.YtdkafajmhgfkoaaDoor
open Go.RowKit

/-- A text cut at each blank. -/
def cutL : List UInt8 → List (List UInt8)
  | [] => [[]]
  | c :: l => if c = 32 then [] :: cutL l else
    match cutL l with
    | [] => [[c]]
    | p :: ps => (c :: p) :: ps
def glue (q : List UInt8) : List (List UInt8) → List (List UInt8)
  | [] => [q]
  | p :: ps => (q ++ p) :: ps
theorem cutL_ne (l : List UInt8) : cutL l ≠ [] := by
  cases l with
  | nil => simp [cutL]
  | cons c l =>
    rw [cutL]
    split
    · simp
    · split <;> simp
theorem cutL_blank (l : List UInt8) : cutL (32 :: l) = [] :: cutL l := by rw [cutL, if_pos rfl]
theorem cutL_other {c : UInt8} (h : c ≠ 32) (l : List UInt8) : cutL (c :: l) = glue [c] (cutL l) := by
  rw [cutL, if_neg h]
  cases cutL l <;> rfl
theorem glue_glue (q r : List UInt8) (x : List (List UInt8)) : glue q (glue r x) = glue (q ++ r) x := by
  cases x <;> simp [glue]
theorem glue_nil {x : List (List UInt8)} (h : x ≠ []) : glue [] x = x := by
  cases x with
  | nil => exact absurd rfl h
  | cons p ps => rfl
theorem indexByte_none : ∀ (l : List UInt8) (c : UInt8), Lib.indexByte l c = -1 → l.count c = 0
  | [], _, _ => rfl
  | b :: l, c, h => by
    have hge := Lib.indexByte_ge l c
    rw [Lib.indexByte] at h
    split at h
    · omega
    · rename_i hb
      split at h
      · rename_i h2
        rw [List.count_cons, indexByte_none l c (by simpa using h2)]
        simp only [Bool.not_eq_true] at hb
        rw [if_neg (by simp [hb])]
      · omega
theorem splitK_cut : ∀ l : List UInt8, Lib.splitK [32] 0 (l.count 32) l = cutL l
  | [] => rfl
  | c :: l => by
    have ih := splitK_cut l
    by_cases hc : c = 32
    · subst hc
      have h0 : Lib.index (32 :: l) [32] = 0 := by rw [Lib.index_one, Lib.indexByte, if_pos (beq_self_eq_true _)]
      rw [List.count_cons_self, cutL_blank, Lib.splitK, h0, if_neg (by decide), ← ih]
      rfl
    · have hb : (c == 32) = false := by simpa using hc
      rw [List.count_cons, if_neg (by simp [hb]), Nat.add_zero, cutL_other hc, ← ih]
      cases hk : l.count 32 with
      | zero => rfl
      | succ k =>
        have hi : Lib.indexByte l 32 ≠ -1 := fun e => by have := indexByte_none l 32 e; omega
        have hge := Lib.indexByte_ge l 32
        obtain ⟨i, hi2⟩ := Int.eq_ofNat_of_zero_le (show 0 ≤ Lib.indexByte l 32 by omega)
        have h1 : Lib.index (c :: l) [32] = (i : Int) + 1 := by
          rw [Lib.index_one, Lib.indexByte, if_neg (by simp [hb]), hi2, if_neg (by simp)]
        have h2 : Lib.index l [32] = (i : Int) := by rw [Lib.index_one, hi2]
        rw [Lib.splitK, Lib.splitK, h1, h2, if_neg (by simp; omega), if_neg (by simp)]
        have e1 : ((i : Int) + 1).toNat = i + 1 := by omega
        have e2 : ((i : Int)).toNat = i := by omega
        rw [e1, e2]
        simp [glue]

def cutS (s : ByteArray) : List ByteArray := (cutL s.data.toList).map (fun l => ⟨l.toArray⟩)
theorem of_lists {xs : List ByteArray} {s : ByteArray} (h : xs.map (·.data.toList) = cutL s.data.toList) : xs = cutS s := by
  rw [cutS, ← h, List.map_map]
  have : ((fun l : List UInt8 => (⟨l.toArray⟩ : ByteArray)) ∘ fun b : ByteArray => b.data.toList) = id := by
    funext b
    simp
  rw [this, List.map_id]
theorem splitB_cut (s : ByteArray) : Lib.splitB ⟨#[32]⟩ 0 (Lib.countB s ⟨#[32]⟩) s = cutS s := by
  refine of_lists ?_
  rw [Lib.splitB_data]
  show Lib.splitK [32] 0 (Lib.count s.data.toList [32]) s.data.toList = _
  rw [Lib.count_one]
  exact splitK_cut _
theorem cutS_ne (s : ByteArray) : 1 ≤ (cutS s).length := by
  rw [cutS, List.length_map]
  cases h : cutL s.data.toList with
  | nil => exact absurd h (cutL_ne _)
  | cons p ps => simp
def lens : List (List UInt8) → Nat
  | [] => 0
  | p :: ps => p.length + 1 + lens ps
theorem lens_cut : ∀ l : List UInt8, lens (cutL l) = l.length + 1
  | [] => rfl
  | c :: l => by
    have ih := lens_cut l
    by_cases hc : c = 32
    · subst hc
      rw [cutL_blank, lens, ih]
      simp
      omega
    · rw [cutL_other hc]
      cases h : cutL l with
      | nil => exact absurd h (cutL_ne l)
      | cons p ps =>
        rw [h, lens] at ih
        simp [glue, lens]
        omega

/-- The digit at a place, and the number of the digits ahead of it. -/
def digAt (s : ByteArray) (j : Nat) : Bool := decide (48 ≤ chr s j) && decide (chr s j ≤ 57)
def valB (s : ByteArray) : Nat → Int
  | 0 => 0
  | j + 1 => valB s j * 10 + (chr s j - 48)
def headB (s : ByteArray) : Bool := inR 1 (s.size : Int) 4 && !(chr s 0 == 48 && decide (1 < s.size))
def numB (s : ByteArray) : Int := if headB s && allK (digAt s) s.size then valB s s.size else -1
theorem allK_le' (p : Nat → Bool) : ∀ {m n : Nat}, m ≤ n → allK p n = true → allK p m = true := by
  intro m n hmn h
  induction n with
  | zero => obtain rfl : m = 0 := by omega
            exact h
  | succ n ih =>
    by_cases he : m = n + 1
    · subst he; exact h
    · refine ih (by omega) ?_
      rw [allK, Bool.and_eq_true] at h
      exact h.1
theorem allK_at {p : Nat → Bool} {n k : Nat} (h : allK p n = true) (hk : k < n) : p k = true := by
  have := allK_le' p (show k + 1 ≤ n by omega) h
  rw [allK, Bool.and_eq_true] at this
  exact this.2
theorem dig_of {s : ByteArray} {j : Nat} (h : digAt s j = true) : 48 ≤ chr s j ∧ chr s j ≤ 57 := by simpa [digAt] using h
theorem valB_lt {s : ByteArray} : ∀ {k : Nat}, allK (digAt s) k = true → 0 ≤ valB s k ∧ valB s k < 10 ^ k
  | 0, _ => by simp [valB]
  | k + 1, h => by
    have ih := valB_lt (allK_le' _ (Nat.le_succ k) h)
    have hd := dig_of (allK_at h (Nat.lt_succ_self k))
    rw [valB]
    have : (10 : Int) ^ (k + 1) = 10 ^ k * 10 := Int.pow_succ ..
    omega
theorem valB_ge {s : ByteArray} (h0 : 49 ≤ chr s 0) : ∀ {k : Nat}, allK (digAt s) (k + 1) = true → 10 ^ k ≤ valB s (k + 1)
  | 0, _ => by simp [valB]; omega
  | k + 1, h => by
    have ih := valB_ge h0 (allK_le' _ (Nat.le_succ (k + 1)) h)
    have hd := dig_of (allK_at h (Nat.lt_succ_self (k + 1)))
    rw [valB]
    have : (10 : Int) ^ (k + 1) = 10 ^ k * 10 := Int.pow_succ ..
    omega
theorem numB_small {s : ByteArray} (h : 0 ≤ numB s) : s.size ≤ 4 ∧ numB s ≤ 9999 := by
  unfold numB at h ⊢
  split at h
  · rename_i hh
    rw [if_pos hh]
    rw [Bool.and_eq_true, headB, Bool.and_eq_true] at hh
    obtain ⟨⟨h1, -⟩, h2⟩ := hh
    simp only [inR, Bool.and_eq_true, decide_eq_true_eq] at h1
    have hv := valB_lt h2
    have hs : s.size ≤ 4 := by omega
    have h4 : s.size = 0 ∨ s.size = 1 ∨ s.size = 2 ∨ s.size = 3 ∨ s.size = 4 := by omega
    refine ⟨hs, ?_⟩
    rcases h4 with e | e | e | e | e <;> rw [e] at hv ⊢ <;> omega
  · omega

/-- What the program makes of a number's text. -/
def decB (s : ByteArray) : Int :=
  if s.size = 0 ∨ 5 < s.size ∨ (1 < s.size ∧ chr s 0 = 48) ∨ allK (digAt s) s.size = false then -1 else if 9999 < valB s s.size then -1 else valB s s.size
theorem decB_eq (s : ByteArray) : decB s = numB s := by
  unfold decB numB headB
  by_cases hd : allK (digAt s) s.size = true
  · have hv := valB_lt hd
    by_cases h0 : s.size = 0
    · rw [if_pos (.inl h0), if_neg (by simp [inR]; omega)]
    · by_cases h5 : 5 < s.size
      · rw [if_pos (.inr (.inl h5)), if_neg (by simp [inR]; omega)]
      · by_cases hz : 1 < s.size ∧ chr s 0 = 48
        · rw [if_pos (.inr (.inr (.inl hz))), if_neg (by simp [inR, hz.1, hz.2])]
        · rw [if_neg (by rw [hd]; simp only [not_or]; exact ⟨h0, h5, hz, by simp⟩)]
          by_cases h4 : s.size ≤ 4
          · have h9 : ¬ 9999 < valB s s.size := by
              have h4 : s.size = 1 ∨ s.size = 2 ∨ s.size = 3 ∨ s.size = 4 := by omega
              rcases h4 with e | e | e | e <;> rw [e] at hv ⊢ <;> omega
            rw [if_neg h9, if_pos]
            simp only [hd, inR, Bool.and_eq_true, decide_eq_true_eq, Bool.not_eq_true', Bool.and_eq_false_iff, decide_eq_false_iff_not, beq_eq_false_iff_ne, and_true]
            refine ⟨by omega, ?_⟩
            by_cases hc : chr s 0 = 48
            · exact .inr (fun h1 => hz ⟨h1, hc⟩)
            · exact .inl hc
          · have e5 : s.size = 5 := by omega
            have hd0 := dig_of (allK_at hd (show 0 < s.size by omega))
            have hge : (10 : Int) ^ 4 ≤ valB s 5 := valB_ge (s := s) (k := 4) (by
              have : chr s 0 ≠ 48 := fun e => hz ⟨by omega, e⟩
              omega) (by rw [e5] at hd; exact hd)
            rw [if_pos (by rw [e5]; omega), if_neg (by simp [inR]; omega)]
  · rw [if_pos (.inr (.inr (.inr (by simpa using hd)))), if_neg (by simp [hd])]
theorem atoi_val (s : ByteArray) (h0 : 1 ≤ s.size) (hd : allK (digAt s) s.size = true) : Lib.atoi s.data.toList = some (valB s s.size) := by
  have hsz : s.data.toList.length = s.size := by rw [Array.length_toList]; rfl
  have hat : ∀ j, j < s.size → ∃ b, s.data.toList[j]? = some b ∧ chr s j = (b.toNat : Int) := by
    intro j hj
    have hl : j < s.data.toList.length := by omega
    refine ⟨s.data.toList[j], List.getElem?_eq_getElem hl, ?_⟩
    unfold chr
    rw [getElem?_pos s j hj]
    rfl
  have hdec : ∀ k, k ≤ s.size → ∃ n : Nat, Lib.decFrom 0 (s.data.toList.take k) = some n ∧ valB s k = (n : Int) := by
    intro k
    induction k with
    | zero => intro _; exact ⟨0, rfl, rfl⟩
    | succ k ih =>
      intro hk
      obtain ⟨n, h1, h2⟩ := ih (by omega)
      obtain ⟨b, h3, h4⟩ := hat k (by omega)
      have hdk := dig_of (allK_at hd (show k < s.size by omega))
      rw [h4] at hdk
      have hv : Lib.digitVal b = some (b.toNat - 48) := by rw [Lib.digitVal, if_pos (by omega)]
      refine ⟨_, Lib.decFrom_take _ k 0 n b _ h1 h3 hv, ?_⟩
      rw [valB, h2, h4]
      omega
  obtain ⟨n, h1, h2⟩ := hdec s.size (Nat.le_refl _)
  rw [List.take_of_length_le (by omega)] at h1
  obtain ⟨b, h3, h4⟩ := hat 0 h0
  have hdb := dig_of (allK_at hd (show 0 < s.size by omega))
  cases hl : s.data.toList with
  | nil => rw [hl] at h3; simp at h3
  | cons c r =>
    rw [hl] at h3 h1
    simp only [List.getElem?_cons_zero, Option.some.injEq] at h3
    subst h3
    rw [Lib.atoi, if_neg (by intro e; have := beq_iff_eq.1 e; subst this; simp at h4; omega), if_neg (by intro e; have := beq_iff_eq.1 e; subst this; simp at h4; omega)]
    rw [Lib.decNat, if_neg (by simp), h1, h2]
    rfl

/-- The fields while the reference reads them; while the program does. -/
def kOf (c : Int) : Nat := if c = 65 then 0 else if c = 66 then 1 else if c = 67 then 2 else 3
def stS (wd : ByteArray) (ws : List ByteArray) : Nat → Option (List Int)
  | 0 => some [0, 0, 0, 0]
  | i + 1 => match stS wd ws i with
    | none => none
    | some xs => if 0 ≤ numB (ws.getD (i + 1) ⟨#[]⟩) then some (xs.set (kOf (chr wd i)) (numB (ws.getD (i + 1) ⟨#[]⟩))) else none
def specR (op : Nat) (ws : List ByteArray) : Option (List Int) :=
  if ws.length = (wordL.getD op ⟨#[]⟩).size + 1 then stS (wordL.getD op ⟨#[]⟩) ws (wordL.getD op ⟨#[]⟩).size else none
def stI (F : Int) (ws : List ByteArray) : Nat → Option (List Int × Nat)
  | 0 => some ([0, 0, 0, 0], 1)
  | i + 1 => match stI F ws i with
    | none => none
    | some (xs, j) => if bitB F i then (if j < ws.length ∧ 0 ≤ numB (ws.getD j ⟨#[]⟩) then some (xs.set i (numB (ws.getD j ⟨#[]⟩)), j + 1) else none) else some (xs, j)
def implR (op : Nat) (ws : List ByteArray) : Option (List Int) :=
  match stI (fmL.getD op 0) ws 4 with
  | none => none
  | some (xs, j) => if j = ws.length then some xs else none
set_option linter.unusedSimpArgs false in
theorem impl_spec {op : Nat} (h1 : 1 ≤ op) (h2 : op < 23) (w0 : ByteArray) (ws : List ByteArray) : implR op (w0 :: ws) = specR op (w0 :: ws) := by
  have b9 : bitB 9 0 = true ∧ bitB 9 1 = false ∧ bitB 9 2 = false ∧ bitB 9 3 = true := ⟨rfl, rfl, rfl, rfl⟩
  have b3 : bitB 3 0 = true ∧ bitB 3 1 = true ∧ bitB 3 2 = false ∧ bitB 3 3 = false := ⟨rfl, rfl, rfl, rfl⟩
  have b7 : bitB 7 0 = true ∧ bitB 7 1 = true ∧ bitB 7 2 = true ∧ bitB 7 3 = false := ⟨rfl, rfl, rfl, rfl⟩
  have b1 : bitB 1 0 = true ∧ bitB 1 1 = false ∧ bitB 1 2 = false ∧ bitB 1 3 = false := ⟨rfl, rfl, rfl, rfl⟩
  have b8 : bitB 8 0 = false ∧ bitB 8 1 = false ∧ bitB 8 2 = false ∧ bitB 8 3 = true := ⟨rfl, rfl, rfl, rfl⟩
  have c9 : kOf (chr ⟨#[65, 78]⟩ 0) = 0 ∧ kOf (chr ⟨#[65, 78]⟩ 1) = 3 ∧ (⟨#[65, 78]⟩ : ByteArray).size = 2 := ⟨rfl, rfl, rfl⟩
  have c3 : kOf (chr ⟨#[65, 66]⟩ 0) = 0 ∧ kOf (chr ⟨#[65, 66]⟩ 1) = 1 ∧ (⟨#[65, 66]⟩ : ByteArray).size = 2 := ⟨rfl, rfl, rfl⟩
  have c7 : kOf (chr ⟨#[65, 66, 67]⟩ 0) = 0 ∧ kOf (chr ⟨#[65, 66, 67]⟩ 1) = 1 ∧ kOf (chr ⟨#[65, 66, 67]⟩ 2) = 2 ∧ (⟨#[65, 66, 67]⟩ : ByteArray).size = 3 := ⟨rfl, rfl, rfl, rfl⟩
  have c1 : kOf (chr ⟨#[65]⟩ 0) = 0 ∧ (⟨#[65]⟩ : ByteArray).size = 1 := ⟨rfl, rfl⟩
  have c8 : kOf (chr ⟨#[78]⟩ 0) = 3 ∧ (⟨#[78]⟩ : ByteArray).size = 1 := ⟨rfl, rfl⟩
  unfold implR specR
  rcases words_vals op h2 h1 with ⟨e1, e2⟩ | ⟨e1, e2⟩ | ⟨e1, e2⟩ | ⟨e1, e2⟩ | ⟨e1, e2⟩ <;> rw [e1, e2] <;> clear e1 e2 h1 h2
  all_goals
    rcases ws with _ | ⟨x1, ws⟩
    · simp [stI, stS, b9, b3, b7, b1, b8, c9, c3, c7, c1, c8, List.getD]
    by_cases n1 : 0 ≤ numB x1
    · rcases ws with _ | ⟨x2, ws⟩
      · simp [stI, stS, b9, b3, b7, b1, b8, c9, c3, c7, c1, c8, List.getD, n1]
      by_cases n2 : 0 ≤ numB x2
      · rcases ws with _ | ⟨x3, ws⟩
        · simp [stI, stS, b9, b3, b7, b1, b8, c9, c3, c7, c1, c8, List.getD, n1, n2]
        by_cases n3 : 0 ≤ numB x3
        · rcases ws with _ | ⟨x4, ws⟩
          · simp [stI, stS, b9, b3, b7, b1, b8, c9, c3, c7, c1, c8, List.getD, n1, n2, n3]
          · simp [stI, stS, b9, b3, b7, b1, b8, c9, c3, c7, c1, c8, List.getD, n1, n2, n3]
        · simp [stI, stS, b9, b3, b7, b1, b8, c9, c3, c7, c1, c8, List.getD, n1, n2, n3]
      · simp [stI, stS, b9, b3, b7, b1, b8, c9, c3, c7, c1, c8, List.getD, n1, n2]
    · simp [stI, stS, b9, b3, b7, b1, b8, c9, c3, c7, c1, c8, List.getD, n1]

end Go.Proofs.YtdkafajmhgfkoaaDoor
