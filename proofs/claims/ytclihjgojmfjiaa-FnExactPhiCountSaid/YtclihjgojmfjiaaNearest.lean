/-
  The deepest block of which something holds: the program's search, and the reference's; the answers of MeetOf.
-/
import Derived.Test.YtclihjgojmfjiaaDepth
namespace Go.Proofs.Ytclihjgojmfjiaa
open Go.RowKit

/-- The deepest of the blocks 0 .. k-1 of which P holds, or -1. -/
noncomputable def bestOf (g : List (List Int)) (P : Nat → Bool) : Nat → Int
  | 0 => -1
  | k + 1 => if P k && (decide (bestOf g P k < 0) || domB g (bestOf g P k).toNat k) then (k : Int) else bestOf g P k
theorem bestOf_range (g : List (List Int)) (P : Nat → Bool) : ∀ k, bestOf g P k = -1 ∨ ∃ m : Nat, m < k ∧ P m = true ∧ bestOf g P k = (m : Int)
  | 0 => .inl rfl
  | k + 1 => by
    by_cases h : (P k && (decide (bestOf g P k < 0) || domB g (bestOf g P k).toNat k)) = true
    · refine .inr ⟨k, by omega, ?_, by rw [bestOf, if_pos h]⟩
      simp only [Bool.and_eq_true] at h
      exact h.1
    · rw [bestOf, if_neg h]
      rcases bestOf_range g P k with h1 | ⟨m, h1, h2, h3⟩
      · exact .inl h1
      · exact .inr ⟨m, by omega, h2, h3⟩
theorem bestOf_congr {g : List (List Int)} {P Q : Nat → Bool} : ∀ {k : Nat}, (∀ j, j < k → P j = Q j) → bestOf g P k = bestOf g Q k
  | 0, _ => rfl
  | k + 1, h => by
    rw [bestOf, bestOf, bestOf_congr (k := k) (fun j hj => h j (by omega)), h k (by omega)]
theorem bestOf_none {g : List (List Int)} {P : Nat → Bool} : ∀ {k : Nat}, (∀ j, j < k → P j = false) → bestOf g P k = -1
  | 0, _ => rfl
  | k + 1, h => by
    rw [bestOf, h k (by omega), Bool.false_and, if_neg (by decide)]
    exact bestOf_none (fun j hj => h j (by omega))

/-- The function value answers P of each block, and changes nothing that was there. -/
structure NearFn (w : World) (f : Nat) (caps : Array Value) (n : Nat) (P : Nat → Bool) : Prop where
  enter : ∀ v W, (callFunc f (#[v] ++ caps)).run Try.prog W = .ok (.enter f (#[v] ++ caps)) W
  calls : ∀ x : Nat, x < n → ∀ W, Below w.heap.size w W → Calls Try.prog f (#[.int .i64 (x : Int)] ++ caps) W fun e w' => e = .returned (.bool (P x)) ∧ Below W.heap.size W w'

set_option maxRecDepth 100000 in
set_option maxHeartbeats 2000000 in
theorem nearest_any (p r : Int) (ba : Option Addr) (bc : Nat) (g : List (List Int)) (db : Nat) (oa : Option Addr) (oc sb : Nat) (f : Nat) (caps : Array Value) (P : Nat → Bool) (w : World) (hD : DomsAt w p r ba bc g db oa oc sb) (hf : NearFn w f caps g.length P) (hlen : g.length ≤ 1048576) :
    Calls Try.prog 57 #[.pointer (some ⟨db, 0, none⟩), .func (.func f) #[] caps] w fun e w' => e = .returned (.int .i64 (bestOf g (fun k => reachB g (-1) k && P k) g.length)) ∧ Below w.heap.size w w' := by
  have hen := hf.enter
  have hd3 : w.cell? ⟨db, 3, none⟩ = some (.slice oa g.length oc) := cell_of_row _ _ 3 _ _ _ hD.blk
  go_enter Try.func57, Try.ntmps57
  go_wp2
  clear hd3
  go_loopg [5, 12] g.length (fun F c i wr => ∃ k : Nat, k + F = g.length ∧ i = .int .i64 k ∧ c = .int .i64 (bestOf g (fun k => reachB g (-1) k && P k) k) ∧ Below w.heap.size w wr)
  case atStart => exact ⟨0, by omega, rfl, rfl, Below.refl _ _⟩
  case round =>
    obtain ⟨k, hk, rfl, rfl, hbr⟩ := hrel
    have hDr := hD.later hbr
    by_cases hlt : k < g.length
    · have hd3 : wr.cell? ⟨db, 3, none⟩ = some (.slice oa g.length oc) := cell_of_row _ _ 3 _ _ _ hDr.blk
      have hd4 : wr.cell? ⟨db, 4, none⟩ = some (.slice (some ⟨sb, 0, none⟩) g.length g.length) := cell_of_row _ _ 4 _ _ _ hDr.blk
      obtain ⟨b1, o1, vi, hab, hvi, hci⟩ := hDr.inn.place hlt
      rw [reachRow_get hlt] at hvi
      cases hvi
      cases hab
      rw [Nat.zero_add] at hci
      have hrange := bestOf_range g (fun k => reachB g (-1) k && P k) k
      have hsucc : bestOf g (fun k => reachB g (-1) k && P k) (k + 1) = if (reachB g (-1) k && P k) && (decide (bestOf g (fun k => reachB g (-1) k && P k) k < 0) || domB g (bestOf g (fun k => reachB g (-1) k && P k) k).toNat k) then (k : Int) else bestOf g (fun k => reachB g (-1) k && P k) k := rfl
      have HS := Lib.hid hsucc
      have HR := Lib.hid hrange
      have HP := Lib.hid (hf.calls k hlt wr hbr)
      have HDR := Lib.hid hDr
      clear hsucc hrange hDr
      generalize bestOf g (fun k => reachB g (-1) k && P k) k = ob at HS HR
      generalize reachB g (-1) k = vi at hci HS
      cases vi with
      | false =>
        go_wp2
        go_roundg (gk - 1)
        case measure => omega
        case rel => exact ⟨k + 1, by omega, by go_num, int_val (by have h := HS.out; simpa using h.symm), hbr⟩
      | true =>
        go_wp2_with fail
        refine HP.out.mono ?_
        generalize P k = vp at HS
        rintro e w1 ⟨rfl, hb1⟩
        have hb01 := hbr.trans (hb1.mono hbr.size)
        have hd3' := cell_later hb1 hd3
        have HD1 := Lib.hid (HDR.out.later hb1)
        clear hb1 hd3 hd4 hci hbr
        cases vp with
        | false =>
          go_wp2
          go_roundg (gk - 1)
          case measure => omega
          case rel => exact ⟨k + 1, by omega, by go_num, int_val (by have h := HS.out; simpa using h.symm), hb01⟩
        | true =>
          rcases HR.out with h1 | ⟨m, hm, _, h1⟩
          · subst h1
            clear HR
            go_wp2
            go_roundg (gk - 1)
            case measure => omega
            case rel => exact ⟨k + 1, by omega, by go_num, int_val (by have h := HS.out; simpa using h.symm), hb01⟩
          · subst h1
            clear HR
            have hmn : m < g.length := by omega
            have hdec : decide ((m : Int) < 0) = false := by simp
            obtain ⟨b1, o1, rb, ro, rc, rfl, c1, c2⟩ := BMat.cell HD1.out.over hmn hlt
            have hS := HS.out
            rw [hdec, Int.toNat_natCast] at hS
            have HS2 := Lib.hid hS
            clear hS HS
            generalize domB g m k = vd at c2 HS2
            cases vd <;> (
              go_wp2
              go_roundg (gk - 1)
              case measure => omega
              case rel => exact ⟨k + 1, by omega, by go_num, int_val (by have h := HS2.out; simpa using h.symm), hb01⟩)
    · obtain rfl : k = g.length := by omega
      go_wp2
      go_ret
      exact ⟨rfl, hbr⟩

/-! ### MeetOf -/
noncomputable def meetP (g : List (List Int)) (a b : Int) : Int := if inP g a && inP g b then bestOf g (fun k => domB g k a.toNat && domB g k b.toNat) g.length else -1
theorem meetP_of {g : List (List Int)} {a b : Int} (hf : Fits g) : meetP g a b = if hasP g a && hasP g b then bestOf g (fun k => reachB g (-1) k && (domB g k a.toNat && domB g k b.toNat)) g.length else -1 := by
  have hc : bestOf g (fun k => reachB g (-1) k && (domB g k a.toNat && domB g k b.toNat)) g.length = bestOf g (fun k => domB g k a.toNat && domB g k b.toNat) g.length := bestOf_congr (fun j _ => by
    cases h : domB g j a.toNat with
    | false => simp
    | true => rw [(domB_has h).1]; simp)
  rw [hc, meetP, inP, inP, hasP, hasP, fits_iff.2 hf, Bool.true_and, Bool.true_and]
  by_cases ho : (okN g.length a && okN g.length b) = true
  · rw [if_pos ho]
    simp only [Bool.and_eq_true] at ho
    rw [ho.1, ho.2, Bool.true_and, Bool.true_and]
    by_cases hr : (reachB g (-1) a.toNat && reachB g (-1) b.toNat) = true
    · rw [if_pos hr]
    · rw [if_neg hr]
      refine bestOf_none (fun j _ => ?_)
      cases h1 : domB g j a.toNat with
      | false => rfl
      | true =>
        cases h2 : domB g j b.toNat with
        | false => rfl
        | true => rw [(domB_has h1).2, (domB_has h2).2] at hr; simp at hr
  · rw [if_neg ho, if_neg]
    intro h
    simp only [Bool.and_eq_true] at h ho
    exact ho ⟨h.1.1, h.2.1⟩

set_option maxRecDepth 100000 in
set_option maxHeartbeats 1000000 in
theorem meet1_any (p r : Int) (ba : Option Addr) (bc : Nat) (g : List (List Int)) (db : Nat) (oa : Option Addr) (oc sb : Nat) (x a b bd b1 b2 : Nat) (hx : x < g.length) (ha : a < g.length) (hb : b < g.length) (w : World) (hD : DomsAt w p r ba bc g db oa oc sb)
    (hcd : w.cell? ⟨bd, 0, none⟩ = some (.pointer (some ⟨db, 0, none⟩))) (hca : w.cell? ⟨b1, 0, none⟩ = some (.int .i64 (a : Int))) (hcb : w.cell? ⟨b2, 0, none⟩ = some (.int .i64 (b : Int))) :
    Calls Try.prog 58 #[.int .i64 (x : Int), .pointer (some ⟨bd, 0, none⟩), .pointer (some ⟨b1, 0, none⟩), .pointer (some ⟨b2, 0, none⟩)] w fun e w' => e = .returned (.bool (domB g x a && domB g x b)) ∧ Below w.heap.size w w' := by
  have hd3 : w.cell? ⟨db, 3, none⟩ = some (.slice oa g.length oc) := cell_of_row _ _ 3 _ _ _ hD.blk
  obtain ⟨q1, o1, rb, ro, rc, rfl, c1, c2⟩ := BMat.cell hD.over hx ha
  obtain ⟨q1', o1', rb', ro', rc', hq, d1, d2⟩ := BMat.cell hD.over hx hb
  cases hq
  rw [c1] at d1
  simp only [Option.some.injEq, Value.slice.injEq, Addr.mk.injEq, and_true, true_and] at d1
  obtain ⟨⟨rfl, rfl⟩, rfl⟩ := d1
  clear hD
  generalize domB g x a = va at c2
  generalize domB g x b = vb at d2
  cases va <;> (
    go_enter Try.func58, Try.ntmps58
    go_wp2_with fail
    go_quiet (fail)
    go_wp2
    go_ret
    exact ⟨rfl, below_drewN (Below.refl _ _) _⟩)

end Go.Proofs.Ytclihjgojmfjiaa
