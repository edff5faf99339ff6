
/-
  The reference's l7Insert puts a number into a sorted list unless it is there: the walk.
-/
import Derived.Test.YtkhnhdgbbjppeaaApp
namespace Go.Proofs.Ytkhnhdgbbjppeaa
open Go.RowKit

def insAt (xs : List Int) (x : Int) : Nat := (xs.takeWhile (fun y => decide (y < x))).length
/-- What l7Insert returns. -/
def ins (xs : List Int) (x : Int) : List Int := if xs[insAt xs x]? = some x then xs else xs.take (insAt xs x) ++ x :: xs.drop (insAt xs x)

theorem insAt_of (xs : List Int) (x : Int) (k : Nat) (h1 : ∀ j y, j < k → xs[j]? = some y → y < x) (hk : k ≤ xs.length) (h2 : ∀ y, xs[k]? = some y → ¬ y < x) : insAt xs x = k := by
  induction xs generalizing k with
  | nil => simp at hk; subst hk; rfl
  | cons z zs ih =>
    cases k with
    | zero =>
      have := h2 z (by simp)
      simp [insAt, this]
    | succ k =>
      have hz := h1 0 z (by omega) (by simp)
      have := ih k (fun j y hj hy => h1 (j + 1) y (by omega) (by simpa using hy)) (by simpa using hk) (fun y hy => h2 y (by simpa using hy))
      simp only [insAt, List.takeWhile_cons, hz, decide_true, if_true, List.length_cons] at this ⊢
      omega
theorem ins_same (xs : List Int) (x : Int) (k : Nat) (h1 : ∀ j y, j < k → xs[j]? = some y → y < x) (h2 : xs[k]? = some x) : ins xs x = xs := by
  have hk : k < xs.length := (List.getElem?_eq_some_iff.1 h2).1
  have := insAt_of xs x k h1 (by omega) (fun y hy => by rw [h2] at hy; cases hy; omega)
  rw [ins, this, if_pos h2]
theorem ins_new (xs : List Int) (x : Int) (k : Nat) (h1 : ∀ j y, j < k → xs[j]? = some y → y < x) (hk : k ≤ xs.length) (h2 : ∀ y, xs[k]? = some y → x < y) : ins xs x = xs.take k ++ x :: xs.drop k := by
  have := insAt_of xs x k h1 hk (fun y hy => by have := h2 y hy; omega)
  rw [ins, this, if_neg]
  intro h
  have := h2 x h
  omega
theorem ins_length_le (xs : List Int) (x : Int) : (ins xs x).length ≤ xs.length + 1 := by
  unfold ins
  split
  · omega
  · have : insAt xs x ≤ xs.length := (List.takeWhile_prefix _).length_le
    simp; omega

/-- The call returned a slice that reads as these ints; nothing that was there has changed. -/
def ReadInts (w : World) (xs : List Int) (e : Ending) (w' : World) : Prop :=
  ∃ a cap, e = .returned (.slice a xs.length cap) ∧ IntsAt w' a xs.length cap xs ∧ Below w.heap.size w w'

theorem new_end {xs : List Int} {x : Int} {w w3 : World} {a3 : Option Addr} {c3 k n len : Nat} (hl : xs.length = len) (hk : k ≤ len) (hnew : ins xs x = xs.take k ++ x :: xs.drop k) (hn : n = k + 1 + (len - k))
    (hown3 : w3.ownsRow w.heap.size 3 1 (.slice a3 n c3) n (((xs.take k).map (Value.int .i64) ++ [x].map (Value.int .i64)) ++ (xs.drop k).map (Value.int .i64)))
    (hb3 : Below w.heap.size w w3) : ReadInts w (ins xs x) (.returned (.slice a3 n c3)) w3 := by
  rw [hnew]
  have hlen : n = (xs.take k ++ x :: xs.drop k).length := by simp; omega
  rw [hlen] at hown3 ⊢
  exact ⟨_, _, rfl, ints_of_own (by simpa using hown3), hb3⟩

set_option maxHeartbeats 1000000 in
theorem insert_any (a : Option Addr) (len cap : Nat) (xs : List Int) (x : Int) (w : World) (hin : IntsAt w a len cap xs) (hs : len ≤ 1099511627776) :
    Calls Try.prog 125 #[.slice a len cap, .int .i64 x] w fun e w' => ReadInts w (ins xs x) e w' := by
  go_enter Try.func125, Try.ntmps125
  go_wp2
  go_loop [5] (fun i => ∃ k : Nat, k ≤ len ∧ i = .int .i64 k ∧ Hid (∀ j y, j < k → xs[j]? = some y → y < x)) (fun i => len - (intOf i).toNat)
  case atStart => exact ⟨0, Nat.zero_le _, rfl, Lib.hid (by intro j y hj; omega)⟩
  case round =>
    obtain ⟨k, hk, rfl, hall⟩ := hrel
    have hcap := hin.le
    by_cases hlt : k < len
    · obtain ⟨b, off, y, rfl, hy, hc⟩ := hin.place hlt
      have HY := Lib.hid hy
      clear hy
      by_cases hyx : y < x
      · go_wp2
        go_round
        case rel =>
          refine ⟨k + 1, by omega, by go_num, Lib.hid ?_⟩
          intro j z hj hz
          by_cases hjk : j = k
          · subst hjk; have := HY.out; rw [this] at hz; cases hz; exact hyx
          · exact hall.out j z (by omega) hz
        case measure => simp [intOf]; omega
      · by_cases hye : y = x
        · subst hye
          have he : (y == y) = true := by simp
          go_wp2
          go_ret
          have hsame := ins_same xs y k hall.out HY.out
          rw [hsame]
          have hl := hin.length
          subst hl
          exact ⟨_, _, rfl, hin, Below.refl _ _⟩
        · have he : (y == x) = false := by simp; exact hye
          have HN := Lib.hid (ins_new xs x k hall.out (by have := hin.length; omega) (fun z hz => by rw [HY.out] at hz; cases hz; omega))
          go_wp2_with (at_builtin; refine app_ints rfl (.tmp 34) (.tmp 37) rfl w.heap.size _ 0 [] rfl (own_empty _ _ _ _ (Nat.le_refl _)) _ k _ (xs.take k) rfl (hin.take_length hk) ((hin.toIntsRd.later ((Below.refl _ _).alloc (Nat.le_refl _) _)).pre k) (by rintro ⟨⟩) (by omega) (by simp) ?_; intro a1 c1 w1 hown hgrow hlies)
          have hb1 : Below w.heap.size w w1 := ((Below.refl _ _).alloc (Nat.le_refl _) _).grown hgrow (by simp) (fun j hj => ((own_empty w w.heap.size 3 1 (Nat.le_refl _)).lt j hj).1)
          simp only [Nat.zero_add, List.nil_append] at hown
          clear hgrow hlies hc
          go_wp2
          go_region_law (first | (refine step_app_ints rfl (.tmp 39) (.tmp 41) rfl w.heap.size _ k _ rfl (hown.alloc _) _ 1 _ [x] rfl rfl (RowAt.drew (rowAt_one _ _ _)) (by rintro ⟨⟩) (by omega) (by have := hb1.size; simp; omega) ?_; intro a2 c2 w2 hown2 hgrow2 hlies2; have hb2 : Below w.heap.size w w2 := ((hb1.alloc hb1.size _).drew.grown hgrow2 (by have := hb1.size; simp; omega) (fun j hj => (hown.lt j hj).1)); clear hown hb1) | (refine step_app_ints rfl (.tmp 42) (.tmp 45) rfl w.heap.size _ (k + 1) _ rfl hown2 _ (len - k) _ (xs.drop k) rfl (hin.drop_length k) ((hin.later hb2).from k) (by split <;> rintro ⟨⟩) (by omega) hb2.size ?_; intro a3 c3 w3 hown3 hgrow3 hlies3; have hb3 : Below w.heap.size w w3 := hb2.grown hgrow3 hb2.size (fun j hj => (hown2.lt j hj).1)))
          go_wp2
          all_goals go_ret
          all_goals exact new_end hin.length hk HN.out (by omega) hown3 hb3
    · obtain rfl : k = len := by omega
      have hnl : decide ((k : Int) < (k : Int)) = false := by simp
      have HN := Lib.hid (ins_new xs x k hall.out (by have := hin.length; omega) (fun z hz => by have h1 := (List.getElem?_eq_some_iff.1 hz).1; have := hin.length; omega))
      rcases hin.addr with ⟨rfl, rfl⟩ | ⟨b, off, rfl⟩
      · obtain rfl : k = 0 := by omega
        go_wp2_with (at_builtin; refine app_ints rfl (.tmp 34) (.tmp 37) rfl w.heap.size _ 0 [] rfl (own_empty _ _ _ _ (Nat.le_refl _)) _ 0 _ (xs.take 0) rfl (hin.take_length hk) ((hin.toIntsRd.later ((Below.refl _ _).alloc (Nat.le_refl _) _)).pre 0) (by simp) (by omega) (by simp) ?_; intro a1 c1 w1 hown hgrow hlies)
        have hb1 : Below w.heap.size w w1 := ((Below.refl _ _).alloc (Nat.le_refl _) _).grown hgrow (by simp) (fun j hj => ((own_empty w w.heap.size 3 1 (Nat.le_refl _)).lt j hj).1)
        clear hgrow hlies
        go_wp2
        go_region_law (first | (refine step_app_ints rfl (.tmp 39) (.tmp 41) rfl w.heap.size _ 0 _ rfl (hown.alloc _) _ 1 _ [x] rfl rfl (RowAt.drew (rowAt_one _ _ _)) (by rintro ⟨⟩) (by omega) (by have := hb1.size; simp; omega) ?_; intro a2 c2 w2 hown2 hgrow2 hlies2; have hb2 : Below w.heap.size w w2 := ((hb1.alloc hb1.size _).drew.grown hgrow2 (by have := hb1.size; simp; omega) (fun j hj => (hown.lt j hj).1)); clear hown hb1) | (refine step_app_ints rfl (.tmp 42) (.tmp 45) rfl w.heap.size _ (0 + 1) _ rfl hown2 _ 0 _ (xs.drop 0) rfl (hin.drop_length 0) (hin.later hb2).row (by simp) (by omega) hb2.size ?_; intro a3 c3 w3 hown3 hgrow3 hlies3; have hb3 : Below w.heap.size w w3 := hb2.grown hgrow3 hb2.size (fun j hj => (hown2.lt j hj).1)))
        go_wp2
        all_goals go_ret
        all_goals exact new_end hin.length hk HN.out (by omega) hown3 hb3
      · go_wp2_with (at_builtin; refine app_ints rfl (.tmp 34) (.tmp 37) rfl w.heap.size _ 0 [] rfl (own_empty _ _ _ _ (Nat.le_refl _)) _ k _ (xs.take k) rfl (hin.take_length hk) ((hin.toIntsRd.later ((Below.refl _ _).alloc (Nat.le_refl _) _)).pre k) (by rintro ⟨⟩) (by omega) (by simp) ?_; intro a1 c1 w1 hown hgrow hlies)
        have hb1 : Below w.heap.size w w1 := ((Below.refl _ _).alloc (Nat.le_refl _) _).grown hgrow (by simp) (fun j hj => ((own_empty w w.heap.size 3 1 (Nat.le_refl _)).lt j hj).1)
        simp only [Nat.zero_add, List.nil_append] at hown
        clear hgrow hlies
        go_wp2
        go_region_law (first | (refine step_app_ints rfl (.tmp 39) (.tmp 41) rfl w.heap.size _ k _ rfl (hown.alloc _) _ 1 _ [x] rfl rfl (RowAt.drew (rowAt_one _ _ _)) (by rintro ⟨⟩) (by omega) (by have := hb1.size; simp; omega) ?_; intro a2 c2 w2 hown2 hgrow2 hlies2; have hb2 : Below w.heap.size w w2 := ((hb1.alloc hb1.size _).drew.grown hgrow2 (by have := hb1.size; simp; omega) (fun j hj => (hown.lt j hj).1)); clear hown hb1) | (refine step_app_ints rfl (.tmp 42) (.tmp 45) rfl w.heap.size _ (k + 1) _ rfl hown2 _ 0 _ (xs.drop k) rfl (by have := hin.drop_length k; omega) ((hin.later hb2).from k) (by split <;> rintro ⟨⟩) (by omega) hb2.size ?_; intro a3 c3 w3 hown3 hgrow3 hlies3; have hb3 : Below w.heap.size w w3 := hb2.grown hgrow3 hb2.size (fun j hj => (hown2.lt j hj).1)))
        go_wp2
        all_goals go_ret
        all_goals exact new_end hin.length hk HN.out (by omega) hown3 hb3

end Go.Proofs.Ytkhnhdgbbjppeaa
