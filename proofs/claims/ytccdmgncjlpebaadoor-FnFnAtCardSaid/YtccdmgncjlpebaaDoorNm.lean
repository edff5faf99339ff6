/-
  Names: which texts are names (plain), lists of texts, the program's IsName, the reference's IsName.
-/
import Derived.Test.YtccdmgncjlpebaaDoorNmLays
import Derived.Deep.LoopGhost

namespace Go.Proofs.YtccdmgncjlpebaaDoor
open Go.RowKit

def chrE (s : ByteArray) (j : Nat) : Int := ((s[j]?).map (fun b => (b.toNat : Int))).getD 0
theorem idx_strE (s : ByteArray) (j : Nat) (h : j < s.size) (w : World) : (Instr.index 9 (.string s) (.int .i64 (j : Int))).run Tryd.prog w = .ok (.int .u8 (chrE s j)) w := by
  rw [run_index_string w 9 s .i64 j (by kernel_rfl), dif_pos ⟨by omega, by omega⟩]
  have h2 : s[j]? = some (s[j]'h) := ByteArray.getElem?_lt' s _ h
  rw [chrE, h2]; rfl
theorem chrE_range (s : ByteArray) (j : Nat) : 0 ≤ chrE s j ∧ chrE s j < 256 := by
  unfold chrE
  cases s[j]? with
  | none => exact ⟨by decide, by decide⟩
  | some b => exact ⟨by simp, by have := b.toNat_lt; simp; omega⟩
def letE (c : Int) : Bool := decide (97 ≤ c) && decide (c ≤ 122)
def lettersE (s : ByteArray) : Nat → Bool
  | 0 => true
  | n + 1 => lettersE s n && letE (chrE s n)
theorem lettersE_le {s : ByteArray} : ∀ {n k : Nat}, lettersE s n = true → k ≤ n → lettersE s k = true
  | 0, k, h, hk => by obtain rfl : k = 0 := by omega
                      exact h
  | n + 1, k, h, hk => by
    by_cases he : k = n + 1
    · subst he; exact h
    · rw [lettersE, Bool.and_eq_true] at h
      exact lettersE_le h.1 (by omega)
theorem lettersE_at {s : ByteArray} {n k : Nat} (h : lettersE s n = true) (hk : k < n) : letE (chrE s k) = true := by
  have := lettersE_le h (show k + 1 ≤ n by omega)
  rw [lettersE, Bool.and_eq_true] at this
  exact this.2
theorem lettersE_false {s : ByteArray} {n k : Nat} (hk : k < n) (h : letE (chrE s k) = false) : lettersE s n = false := by
  cases hh : lettersE s n with
  | false => rfl
  | true => rw [lettersE_at hh hk] at h; cases h
def keysE : List ByteArray := [⟨#[102, 110]⟩, ⟨#[108, 101, 116]⟩, ⟨#[115, 97, 121]⟩, ⟨#[112, 117, 116]⟩, ⟨#[105, 102]⟩, ⟨#[101, 108, 115, 101]⟩, ⟨#[108, 111, 111, 112]⟩, ⟨#[98, 97, 99, 107]⟩, ⟨#[100, 111]⟩]
/-- A text is one of a list. -/
def hasE (xs : List ByteArray) (s : ByteArray) : Bool := xs.any fun x => s.toList == x.toList
theorem eqE_comm (a b : ByteArray) : (a.toList == b.toList) = (b.toList == a.toList) := by
  rw [Bool.eq_iff_iff, beq_iff_eq, beq_iff_eq]; exact eq_comm
def nameD (s : ByteArray) : Bool := decide (1 ≤ s.size) && (decide (s.size ≤ 4) && (lettersE s s.size && !hasE keysE s))

/-- A slice of texts reads as a list. -/
structure StrsE (w : World) (a : Option Addr) (n : Nat) (xs : List ByteArray) : Prop where
  length : xs.length = n
  row : RowAt w a (xs.map Value.string)
theorem StrsE.place {w : World} {a : Option Addr} {n : Nat} {xs : List ByteArray} (h : StrsE w a n xs) {i : Nat} (hi : i < n) :
    ∃ b off s, a = some ⟨b, off, none⟩ ∧ xs[i]? = some s ∧ w.cell? ⟨b, off + i, none⟩ = some (.string s) := by
  have hl := h.length
  have hx : xs[i]? = some (xs[i]'(by omega)) := List.getElem?_eq_getElem (by omega)
  rcases h.row with h0 | ⟨b, off, rfl, h1⟩
  · have h2 := congrArg List.length h0
    rw [List.length_map] at h2
    simp only [List.length_nil] at h2
    omega
  · exact ⟨b, off, _, rfl, hx, h1 i _ (by rw [List.getElem?_map, hx]; rfl)⟩

/-- The first place of a text, or -1. -/
def idxE (s : ByteArray) : List ByteArray → Int
  | [] => -1
  | x :: xs => if s.toList == x.toList then 0 else (if idxE s xs < 0 then -1 else idxE s xs + 1)
theorem idxE_none {s : ByteArray} : ∀ {xs : List ByteArray}, (∀ x ∈ xs, (s.toList == x.toList) = false) → idxE s xs = -1
  | [], _ => rfl
  | x :: xs, h => by
    rw [idxE, if_neg (by rw [h x (by simp)]; simp), idxE_none (fun y hy => h y (by simp [hy]))]
    rfl
theorem idxE_some {s : ByteArray} : ∀ {xs : List ByteArray} {k : Nat} {x : ByteArray}, (∀ j y, j < k → xs[j]? = some y → (s.toList == y.toList) = false) → xs[k]? = some x → (s.toList == x.toList) = true → idxE s xs = k
  | [], _, _, _, h, _ => by simp at h
  | y :: ys, 0, x, _, h, hx => by simp at h; subst h; rw [idxE, if_pos hx]; rfl
  | y :: ys, k + 1, x, h, hy, hx => by
    have h1 := h 0 y (by omega) (by simp)
    have h2 := idxE_some (xs := ys) (k := k) (fun j z hj hz => h (j + 1) z (by omega) (by simpa using hz)) (by simpa using hy) hx
    rw [idxE, if_neg (by rw [h1]; simp), h2, if_neg (by omega)]
    omega
theorem idxE_has {s : ByteArray} : ∀ xs : List ByteArray, decide (0 ≤ idxE s xs) = hasE xs s
  | [] => rfl
  | x :: xs => by
    have ih := idxE_has (s := s) xs
    rw [hasE, List.any_cons, idxE]
    cases hx : s.toList == x.toList with
    | true => rfl
    | false =>
      rw [if_neg (by simp), Bool.false_or]
      rw [← hasE, ← ih]
      by_cases h : idxE s xs < 0
      · rw [if_pos h, decide_eq_false (by omega), decide_eq_false (by omega)]
      · rw [if_neg h, decide_eq_true (by omega), decide_eq_true (by omega)]

set_option maxHeartbeats 400000 in
theorem indexE_any (a : Option Addr) (len cap : Nat) (xs : List ByteArray) (s : ByteArray) (w : World) (hin : StrsE w a len xs) (hs : len ≤ maxLen) :
    Calls Tryd.prog 45 #[.slice a len cap, .string s] w fun e w' => e = .returned (.int .i64 (idxE s xs)) ∧ w = w' := by
  have HL := Lib.hid hin.length
  have hs2 : len ≤ 9223372036854775807 := by unfold maxLen at hs; omega
  clear hs
  go_enter Tryd.func45, Tryd.ntmps45
  go_wp2
  go_loop [8] (fun i => ∃ k : Nat, k ≤ len ∧ i = .int .i64 k ∧ Hid (∀ j y, j < k → xs[j]? = some y → (s.toList == y.toList) = false)) (fun i => len - (intOf i).toNat)
  case atStart => exact ⟨0, Nat.zero_le _, rfl, Lib.hid (fun j x hj => by omega)⟩
  case round =>
    obtain ⟨k, hk, rfl, hno⟩ := hrel
    by_cases hlt : k < len
    · obtain ⟨b, off, y, rfl, hy, hc⟩ := hin.place hlt
      have HY := Lib.hid hy
      clear hy
      cases ht : s.toList == y.toList with
      | true =>
        have HI := Lib.hid (idxE_some hno.out HY.out ht)
        go_wp2
        go_ret
        exact ⟨by rw [HI.out]; rfl, rfl⟩
      | false =>
        have HN := Lib.hid ht
        go_wp2
        go_round
        case rel =>
          refine ⟨k + 1, by omega, by go_num, Lib.hid fun j z hj hjz => ?_⟩
          by_cases hjk : j = k
          · subst hjk
            rw [HY.out] at hjz
            cases hjz
            exact HN.out
          · exact hno.out j z (by omega) hjz
        case measure => simp [intOf]; omega
    · obtain rfl : k = len := by omega
      go_wp2
      go_ret
      refine ⟨?_, rfl⟩
      rw [idxE_none (fun y hy => by
        obtain ⟨j, hj⟩ := List.getElem?_of_mem hy
        exact hno.out j y (by have := (List.getElem?_eq_some_iff.1 hj).1; have := HL.out; omega) hj)]
      rfl

theorem containsE_any (a : Option Addr) (len cap : Nat) (xs : List ByteArray) (s : ByteArray) (w : World) (hin : StrsE w a len xs) (hs : len ≤ maxLen) :
    Calls Tryd.prog 31 #[.slice a len cap, .string s] w fun e w' => e = .returned (.bool (hasE xs s)) ∧ w = w' := by
  have HI := Lib.hid (idxE_has (s := s) xs)
  have HQ := Lib.hid (indexE_any a len cap xs s w hin hs)
  clear hs
  go_enter Tryd.func31, Tryd.ntmps31
  go_wp2_with fail
  refine HQ.out.mono ?_
  rintro e w1 ⟨rfl, rfl⟩
  go_wp2
  go_ret
  exact ⟨by rw [← HI.out]; rfl, rfl⟩

/-! The program's. -/
/-- The keys lie where the program's text lays them. -/
def KeysAt (w : World) : Prop := ∀ i s, keysE[i]? = some s → w.cell? ⟨0, 0 + i, none⟩ = some (.string s)
theorem KeysAt.later {w w' : World} (h : KeysAt w) (hb : Below w.heap.size w w') : KeysAt w' := fun i s hs => cell_later hb (h i s hs)
theorem KeysAt.strs {w : World} (h : KeysAt w) : StrsE w (some ⟨0, 0, none⟩) 9 keysE :=
  ⟨rfl, .inr ⟨0, 0, rfl, fun i v hv => by
    rw [List.getElem?_map] at hv
    cases hs : keysE[i]? with
    | none => rw [hs] at hv; cases hv
    | some s => rw [hs] at hv; cases hv; exact h i s hs⟩⟩

def notLet (r : Nat) : Bool := decide (r < 97) || decide (122 < r)
theorem isName1_any (r : Nat) (w : World) : Calls Tryd.prog 30 #[.int .i32 (r : Int)] w fun e w' => e = .returned (.bool (notLet r)) ∧ w' = w := by
  unfold notLet
  by_cases h1 : r < 97
  · have d1 : (r : Int) < 97 := by omega
    rw [decide_eq_true h1]
    clear h1
    go_enter Tryd.func30, Tryd.ntmps30
    go_wp2
    go_ret
    exact ⟨rfl, rfl⟩
  · have d1 : ¬ (r : Int) < 97 := by omega
    rw [decide_eq_false h1]
    clear h1
    by_cases h2 : 122 < r
    · have d2 : (122 : Int) < (r : Int) := by omega
      rw [decide_eq_true h2]
      clear h2
      go_enter Tryd.func30, Tryd.ntmps30
      go_wp2
      go_ret
      exact ⟨rfl, rfl⟩
    · have d2 : ¬ (122 : Int) < (r : Int) := by omega
      rw [decide_eq_false h2]
      clear h2
      go_enter Tryd.func30, Tryd.ntmps30
      go_wp2
      go_ret
      exact ⟨rfl, rfl⟩
theorem idxFuncE_any (s : ByteArray) (w : World) : Calls Tryd.prog 29 #[.string s, .func (.func 30) #[] #[]] w fun e w' => e = .returned (.int .i64 (Lib.idxFunc notLet true s)) ∧ Below w.heap.size w w' := by
  have HQ := Lib.hid (Go.Proofs.Any.strings_indexFunc laysIdxF 30 #[] (fun args W => by kernel_rfl) notLet true s w (fun W x _ => by
    refine (isName1_any x W).mono ?_
    rintro e w' ⟨rfl, rfl⟩
    exact ⟨rfl, 0, rfl⟩))
  go_enter Tryd.func29, Tryd.ntmps29
  go_wp2_with fail
  refine HQ.out.mono ?_
  rintro e w1 ⟨rfl, hb⟩
  have HB := Lib.hid hb
  clear hb
  go_wp2
  go_ret
  exact ⟨rfl, HB.out⟩
theorem decode_big {n b0 b1 b2 b3 : Nat} (h : 128 ≤ b0) : 128 ≤ (Lib.decodeN n b0 b1 b2 b3).1 := by
  unfold Lib.decodeN
  rw [if_neg (by omega)]
  repeat' split
  all_goals (simp only; omega)
theorem idxFrom_letters (s : ByteArray) : ∀ (f pos : Nat), pos ≤ s.size → s.size ≤ pos + f → lettersE s pos = true → decide (Lib.idxFuncFrom notLet true s f pos < 0) = lettersE s s.size
  | 0, pos, h1, h2, h3 => by
    obtain rfl : pos = s.size := by omega
    rw [h3]; rfl
  | f + 1, pos, h1, h2, h3 => by
    rw [Lib.idxFuncFrom]
    by_cases hlt : pos < s.size
    · rw [if_pos hlt]
      have hg : chrE s pos = ((s.get! pos).toNat : Int) := by
        have e1 : s[pos]? = some (s[pos]'hlt) := ByteArray.getElem?_lt' s _ hlt
        have e2 : s.get! pos = s[pos]'hlt := by
          first
            | exact (getElem!_pos s pos hlt)
            | (rw [← getElem!_pos s pos hlt]; rfl)
            | (simp [ByteArray.get!, hlt]; rfl)
        rw [chrE, e1, e2]; rfl
      by_cases hb : (s.get! pos).toNat < 128
      · have hd : Utf8.decode s pos = ((s.get! pos).toNat, 1) := by rw [Lib.decode_at, Lib.decodeN, if_pos hb]
        rw [hd]
        simp only
        cases hn : notLet (s.get! pos).toNat with
        | true =>
          rw [if_pos rfl, decide_eq_false (by omega), lettersE_false hlt]
          rw [hg]
          simp only [notLet, Bool.or_eq_true, decide_eq_true_eq] at hn
          simp only [letE, Bool.and_eq_false_iff, decide_eq_false_iff_not]
          omega
        | false =>
          rw [if_neg (by simp)]
          refine idxFrom_letters s f (pos + 1) (by omega) (by omega) ?_
          rw [lettersE, h3, hg]
          simp only [notLet, Bool.or_eq_false_iff, decide_eq_false_iff_not] at hn
          simp only [letE, Bool.true_and, Bool.and_eq_true, decide_eq_true_eq]
          omega
      · have hd : 128 ≤ (Utf8.decode s pos).1 := by rw [Lib.decode_at]; exact decode_big (by omega)
        rw [if_pos (by rw [notLet, decide_eq_true (show 122 < (Utf8.decode s pos).1 by omega), Bool.or_true]), decide_eq_false (by omega), lettersE_false hlt]
        rw [hg]
        simp only [letE, Bool.and_eq_false_iff, decide_eq_false_iff_not]
        omega
    · rw [if_neg hlt]
      obtain rfl : pos = s.size := by omega
      rw [h3]; rfl

set_option maxHeartbeats 1000000 in
theorem isNameI_any (s : ByteArray) (w : World) (hK : KeysAt w) :
    Calls Tryd.prog 16 #[.string s] w fun e w' => e = .returned (.bool (nameD s)) ∧ Below w.heap.size w w' := by
  have HF := Lib.hid (idxFrom_letters s s.size 0 (by omega) (by omega) rfl)
  have HI := Lib.hid (idxFuncE_any s w)
  have HKK := Lib.hid hK
  obtain ⟨R, hR⟩ : ∃ R, R = nameD s := ⟨_, rfl⟩
  rw [← hR]
  have HR := Lib.hid hR
  clear hR hK
  cases hin : inE 1 (s.size : Int) 4 with
  | false =>
    have HN := Lib.hid (show R = false by
      rw [HR.out, nameD]
      simp only [inE, Bool.and_eq_false_iff, decide_eq_false_iff_not] at hin
      by_cases h1 : 1 ≤ s.size
      · rw [decide_eq_false (show ¬ s.size ≤ 4 by omega)]; simp
      · rw [decide_eq_false h1]; simp)
    go_enter Tryd.func16, Tryd.ntmps16
    go_wp2_with fail
    refine (withinE_is hin _).mono ?_
    rintro e w1 ⟨rfl, rfl⟩
    clear hin
    go_wp2
    go_ret
    exact ⟨by rw [HN.out]; rfl, Below.refl _ _⟩
  | true =>
    have HSZ := Lib.hid (show 1 ≤ s.size ∧ s.size ≤ 4 by
      simp only [inE, Bool.and_eq_true, decide_eq_true_eq] at hin
      omega)
    go_enter Tryd.func16, Tryd.ntmps16
    go_wp2_with fail
    refine (withinE_is hin _).mono ?_
    rintro e w1 ⟨rfl, rfl⟩
    clear hin
    go_wp2_with fail
    refine HI.out.mono ?_
    rintro e w2 ⟨rfl, hb2⟩
    have H2 := Lib.hid (And.intro hb2 (HKK.out.later hb2))
    clear hb2
    have HL := Lib.hid (show decide (Lib.idxFunc notLet true s < 0) = lettersE s s.size from HF.out)
    have HC := Lib.hid (containsE_any (some ⟨0, 0, none⟩) 9 9 keysE s w2 H2.out.2.strs (by decide))
    obtain ⟨v, hv⟩ : ∃ v, v = Lib.idxFunc notLet true s := ⟨_, rfl⟩
    rw [← hv] at HL ⊢
    clear hv HF HI
    by_cases hlt : v < 0
    · have HN := Lib.hid (show R = !hasE keysE s by
        rw [HR.out, nameD, ← HL.out, decide_eq_true hlt, decide_eq_true HSZ.out.1, decide_eq_true HSZ.out.2]; rfl)
      go_wp2_with fail
      refine HC.out.mono ?_
      rintro e w3 ⟨rfl, rfl⟩
      go_wp2
      go_ret
      exact ⟨by rw [HN.out]; rfl, H2.out.1⟩
    · have HN := Lib.hid (show R = false by
        rw [HR.out, nameD, ← HL.out, decide_eq_false hlt]; simp)
      go_wp2
      go_ret
      exact ⟨by rw [HN.out]; rfl, H2.out.1⟩

end Go.Proofs.YtccdmgncjlpebaaDoor
