
/-
  The reference's insertion and sorting, with what the result owns.
-/
import Derived.Test.YtonlidgmfmgcmaaReachedIn
namespace Go.Proofs.Ytonlidgmfmgcmaa
open Go.RowKit

/-- The same list, or one in memory of the call's own. -/
def ReadO (w : World) (a : Option Addr) (cap : Nat) (xs ys : List Int) (e : Ending) (w' : World) : Prop :=
  ∃ a' c', e = .returned (.slice a' ys.length c') ∧ ((ys = xs ∧ a' = a ∧ c' = cap ∧ w' = w) ∨ w'.ownsRow w.heap.size 3 1 (.slice a' ys.length c') ys.length (ys.map (Value.int .i64))) ∧ Below w.heap.size w w'
theorem newO_end {xs : List Int} {x : Int} {w w3 : World} {a3 : Option Addr} {c3 k n len : Nat} (hl : xs.length = len) (hk : k ≤ len) (hnew : ins xs x = xs.take k ++ x :: xs.drop k) (hn : n = k + 1 + (len - k))
    (hown3 : w3.ownsRow w.heap.size 3 1 (.slice a3 n c3) n (((xs.take k).map (Value.int .i64) ++ [x].map (Value.int .i64)) ++ (xs.drop k).map (Value.int .i64)))
    (hb3 : Below w.heap.size w w3) (a : Option Addr) (cap : Nat) : ReadO w a cap xs (ins xs x) (.returned (.slice a3 n c3)) w3 := by
  rw [hnew]
  have hlen : n = (xs.take k ++ x :: xs.drop k).length := by simp; omega
  rw [hlen] at hown3 ⊢
  exact ⟨_, _, rfl, .inr (by simpa using hown3), hb3⟩

set_option maxHeartbeats 1000000 in
theorem insertO_any (a : Option Addr) (len cap : Nat) (xs : List Int) (x : Int) (w : World) (hin : IntsAt w a len cap xs) (hs : len ≤ 1099511627776) :
    Calls Try.prog 27 #[.slice a len cap, .int .i64 x] w fun e w' => ReadO w a cap xs (ins xs x) e w' := by
  go_enter Try.func27, Try.ntmps27
  go_wp2
  go_loop [5] (fun i => ∃ k : Nat, k ≤ len ∧ i = .int .i64 k ∧ Hid (∀ j y, j < k → xs[j]? = some y → y < x)) (fun i => len - (intOf i).toNat)
  case atStart => exact ⟨0, Nat.zero_le _, rfl, Lib.hid (by intro j y hj; omega)⟩
  case round =>
    obtain ⟨k, hk, rfl, hall⟩ := hrel
    have hcap := hin.le
    by_cases hlt : k < len
    · obtain ⟨b, off, y, rfl, hy, hc⟩ := hin.place hlt
      have HY := Lib.hid hy
      clear hy
      by_cases hyx : y < x
      · go_wp2
        go_round
        case rel =>
          refine ⟨k + 1, by omega, by go_num, Lib.hid ?_⟩
          intro j z hj hz
          by_cases hjk : j = k
          · subst hjk; have := HY.out; rw [this] at hz; cases hz; exact hyx
          · exact hall.out j z (by omega) hz
        case measure => simp [intOf]; omega
      · by_cases hye : y = x
        · subst hye
          have he : (y == y) = true := by simp
          go_wp2
          go_ret
          have hsame := ins_same xs y k hall.out HY.out
          rw [hsame]
          have hl := hin.length
          subst hl
          exact ⟨_, _, rfl, .inl ⟨rfl, rfl, rfl, rfl⟩, Below.refl _ _⟩
        · have he : (y == x) = false := by simp; exact hye
          have HN := Lib.hid (ins_new xs x k hall.out (by have := hin.length; omega) (fun z hz => by rw [HY.out] at hz; cases hz; omega))
          go_wp2_with (at_builtin; refine app_ints rfl (.tmp 34) (.tmp 37) rfl w.heap.size _ 0 [] rfl (own_empty _ _ _ _ (Nat.le_refl _)) _ k _ (xs.take k) rfl (hin.take_length hk) ((hin.toIntsRd.later ((Below.refl _ _).alloc (Nat.le_refl _) _)).pre k) (by rintro ⟨⟩) (by omega) (by simp) ?_; intro a1 c1 w1 hown hgrow hlies)
          have hb1 : Below w.heap.size w w1 := ((Below.refl _ _).alloc (Nat.le_refl _) _).grown hgrow (by simp) (fun j hj => ((own_empty w w.heap.size 3 1 (Nat.le_refl _)).lt j hj).1)
          simp only [Nat.zero_add, List.nil_append] at hown
          clear hgrow hlies hc
          go_wp2
          go_region_law (first | (refine step_app_ints rfl (.tmp 39) (.tmp 41) rfl w.heap.size _ k _ rfl (hown.alloc _) _ 1 _ [x] rfl rfl (RowAt.drew (rowAt_one _ _ _)) (by rintro ⟨⟩) (by omega) (by have := hb1.size; simp; omega) ?_; intro a2 c2 w2 hown2 hgrow2 hlies2; have hb2 : Below w.heap.size w w2 := ((hb1.alloc hb1.size _).drew.grown hgrow2 (by have := hb1.size; simp; omega) (fun j hj => (hown.lt j hj).1)); clear hown hb1) | (refine step_app_ints rfl (.tmp 42) (.tmp 45) rfl w.heap.size _ (k + 1) _ rfl hown2 _ (len - k) _ (xs.drop k) rfl (hin.drop_length k) ((hin.later hb2).from k) (by split <;> rintro ⟨⟩) (by omega) hb2.size ?_; intro a3 c3 w3 hown3 hgrow3 hlies3; have hb3 : Below w.heap.size w w3 := hb2.grown hgrow3 hb2.size (fun j hj => (hown2.lt j hj).1)))
          go_wp2
          all_goals go_ret
          all_goals exact newO_end hin.length hk HN.out (by omega) hown3 hb3 _ _
    · obtain rfl : k = len := by omega
      have hnl : decide ((k : Int) < (k : Int)) = false := by simp
      have HN := Lib.hid (ins_new xs x k hall.out (by have := hin.length; omega) (fun z hz => by have h1 := (List.getElem?_eq_some_iff.1 hz).1; have := hin.length; omega))
      rcases hin.addr with ⟨rfl, rfl⟩ | ⟨b, off, rfl⟩
      · obtain rfl : k = 0 := by omega
        go_wp2_with (at_builtin; refine app_ints rfl (.tmp 34) (.tmp 37) rfl w.heap.size _ 0 [] rfl (own_empty _ _ _ _ (Nat.le_refl _)) _ 0 _ (xs.take 0) rfl (hin.take_length hk) ((hin.toIntsRd.later ((Below.refl _ _).alloc (Nat.le_refl _) _)).pre 0) (by simp) (by omega) (by simp) ?_; intro a1 c1 w1 hown hgrow hlies)
        have hb1 : Below w.heap.size w w1 := ((Below.refl _ _).alloc (Nat.le_refl _) _).grown hgrow (by simp) (fun j hj => ((own_empty w w.heap.size 3 1 (Nat.le_refl _)).lt j hj).1)
        clear hgrow hlies
        go_wp2
        go_region_law (first | (refine step_app_ints rfl (.tmp 39) (.tmp 41) rfl w.heap.size _ 0 _ rfl (hown.alloc _) _ 1 _ [x] rfl rfl (RowAt.drew (rowAt_one _ _ _)) (by rintro ⟨⟩) (by omega) (by have := hb1.size; simp; omega) ?_; intro a2 c2 w2 hown2 hgrow2 hlies2; have hb2 : Below w.heap.size w w2 := ((hb1.alloc hb1.size _).drew.grown hgrow2 (by have := hb1.size; simp; omega) (fun j hj => (hown.lt j hj).1)); clear hown hb1) | (refine step_app_ints rfl (.tmp 42) (.tmp 45) rfl w.heap.size _ (0 + 1) _ rfl hown2 _ 0 _ (xs.drop 0) rfl (hin.drop_length 0) (hin.later hb2).row (by simp) (by omega) hb2.size ?_; intro a3 c3 w3 hown3 hgrow3 hlies3; have hb3 : Below w.heap.size w w3 := hb2.grown hgrow3 hb2.size (fun j hj => (hown2.lt j hj).1)))
        go_wp2
        all_goals go_ret
        all_goals exact newO_end hin.length hk HN.out (by omega) hown3 hb3 _ _
      · go_wp2_with (at_builtin; refine app_ints rfl (.tmp 34) (.tmp 37) rfl w.heap.size _ 0 [] rfl (own_empty _ _ _ _ (Nat.le_refl _)) _ k _ (xs.take k) rfl (hin.take_length hk) ((hin.toIntsRd.later ((Below.refl _ _).alloc (Nat.le_refl _) _)).pre k) (by rintro ⟨⟩) (by omega) (by simp) ?_; intro a1 c1 w1 hown hgrow hlies)
        have hb1 : Below w.heap.size w w1 := ((Below.refl _ _).alloc (Nat.le_refl _) _).grown hgrow (by simp) (fun j hj => ((own_empty w w.heap.size 3 1 (Nat.le_refl _)).lt j hj).1)
        simp only [Nat.zero_add, List.nil_append] at hown
        clear hgrow hlies
        go_wp2
        go_region_law (first | (refine step_app_ints rfl (.tmp 39) (.tmp 41) rfl w.heap.size _ k _ rfl (hown.alloc _) _ 1 _ [x] rfl rfl (RowAt.drew (rowAt_one _ _ _)) (by rintro ⟨⟩) (by omega) (by have := hb1.size; simp; omega) ?_; intro a2 c2 w2 hown2 hgrow2 hlies2; have hb2 : Below w.heap.size w w2 := ((hb1.alloc hb1.size _).drew.grown hgrow2 (by have := hb1.size; simp; omega) (fun j hj => (hown.lt j hj).1)); clear hown hb1) | (refine step_app_ints rfl (.tmp 42) (.tmp 45) rfl w.heap.size _ (k + 1) _ rfl hown2 _ 0 _ (xs.drop k) rfl (by have := hin.drop_length k; omega) ((hin.later hb2).from k) (by split <;> rintro ⟨⟩) (by omega) hb2.size ?_; intro a3 c3 w3 hown3 hgrow3 hlies3; have hb3 : Below w.heap.size w w3 := hb2.grown hgrow3 hb2.size (fun j hj => (hown2.lt j hj).1)))
        go_wp2
        all_goals go_ret
        all_goals exact newO_end hin.length hk HN.out (by omega) hown3 hb3 _ _


end Go.Proofs.Ytonlidgmfmgcmaa
