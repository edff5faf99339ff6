/-
  How many statements there are, and how deep they are nested (the reference's): l3Count, l3Nest.
-/
import Derived.Test.YtccdmgncjlpebaaDoorVs
import Derived.Deep.QuietTactic
import Derived.BigQuiet

namespace Go.Proofs.YtccdmgncjlpebaaDoor
open Go.RowKit
set_option linter.unusedVariables false

theorem sumN_le {α : Type} {f : α → Nat} {n : Nat} : ∀ {xs : List α}, (∀ x ∈ xs, f x ≤ n) → sumN f xs ≤ xs.length * n
  | [], _ => by simp [sumN]
  | x :: xs, h => by
    rw [sumN, List.length_cons, Nat.add_mul]
    have := sumN_le (f := f) (n := n) (xs := xs) (fun y hy => h y (List.mem_cons_of_mem _ hy))
    have := h x List.mem_cons_self
    omega
theorem listK_mem {α : Type} {s : Nat} {R : InRel α} {S : Nat → Prop} {w : World} {a : Option Addr} {xs : List α} (h : ListK s R S w a xs) {x : α} (hx : x ∈ xs) : ∃ c, R S w c x := by
  obtain ⟨h1, cells, h2, h3, h4, h5⟩ := h.rd
  obtain ⟨i, hi, rfl⟩ := List.getElem_of_mem hx
  exact ⟨cells[i]'(by omega), h5 i _ _ (List.getElem?_eq_getElem _) (List.getElem?_eq_getElem _)⟩
theorem cntS_le : ∀ {d : Nat} {S : Nat → Prop} {w : World} {c : List Value} {x : StmtD}, StmtP d S w c x → cntS d x ≤ 201 ^ d
  | 0, _, _, _, _, h => h.elim
  | d + 1, S, w, c, x, ⟨aa, ac, ba, bc, ea, ec, _, hb, _, hB, hE⟩ => by
    have h1 : sumN (cntS d) x.body ≤ x.body.length * 201 ^ d := sumN_le fun y hy => by obtain ⟨c, hc⟩ := listK_mem hB hy; exact cntS_le hc
    have h2 : sumN (cntS d) x.els ≤ x.els.length * 201 ^ d := sumN_le fun y hy => by obtain ⟨c, hc⟩ := listK_mem hE hy; exact cntS_le hc
    have h3 : x.body.length * 201 ^ d ≤ 100 * 201 ^ d := Nat.mul_le_mul_right _ (by omega)
    have h4 : x.els.length * 201 ^ d ≤ 100 * 201 ^ d := Nat.mul_le_mul_right _ (by omega)
    have h5 : 1 ≤ 201 ^ d := Nat.one_le_pow _ _ (by omega)
    rw [cntS, Nat.pow_succ]
    omega
theorem cntL_le {d : Nat} {S : Nat → Prop} {w : World} {a : Option Addr} {xs : List StmtD} (h : ListK 5 (StmtP d) S w a xs) (hl : xs.length ≤ 100) : sumN (cntS d) xs ≤ 100 * 201 ^ d := by
  have h1 : sumN (cntS d) xs ≤ xs.length * 201 ^ d := sumN_le fun y hy => by obtain ⟨c, hc⟩ := listK_mem h hy; exact cntS_le hc
  have h3 : xs.length * 201 ^ d ≤ 100 * 201 ^ d := Nat.mul_le_mul_right _ (by omega)
  omega
theorem pow201 {d : Nat} (h : d ≤ 4) : 100 * 201 ^ d ≤ 163224080100 := by
  have h1 : 201 ^ d ≤ 201 ^ 4 := Nat.pow_le_pow_right (by omega) h
  have h2 : (201 : Nat) ^ 4 = 1632240801 := by decide
  omega
/-- What fits is read so deep as it is valid. -/
theorem stmtP_fit : ∀ {m D : Nat} {S : Nat → Prop} {w : World} {c : List Value} {x : StmtD}, stmtB m x = true → StmtP D S w c x → StmtP m S w c x
  | 0, _, _, _, _, _, h, _ => by simp [stmtB] at h
  | _ + 1, 0, _, _, _, _, _, h => h.elim
  | m + 1, D + 1, S, w, c, x, h, ⟨aa, ac, ba, bc, ea, ec, h1, h2, h3, h4, h5⟩ => by
    obtain ⟨_, k2, k3⟩ := stmtB_parts h
    exact ⟨aa, ac, ba, bc, ea, ec, h1, h2, h3, h4.rel (fun _ y hy h => stmtP_fit (k2 y hy) h), h5.rel (fun _ y hy h => stmtP_fit (k3 y hy) h)⟩

def CountSV (D : Nat) : Prop := ∀ (S : Nat → Prop) (a : Option Addr) (len cap : Nat) (xs : List StmtD) (w : World), ListK 5 (StmtP D) S w a xs → xs.length = len → len ≤ 100 →
    Calls Tryd.prog 40 #[.slice a len cap] w fun e w' => e = .returned (.int .i64 (sumN (cntS D) xs : Nat)) ∧ ∃ m, w' = w.drewN m
theorem int_eq' {a b : Int} (h : a = b) : Value.int .i64 a = .int .i64 b := by rw [h]
set_option maxRecDepth 100000 in
set_option maxHeartbeats 2000000 in
theorem l3Count_step (D : Nat) (hD4 : D ≤ 4) (hD : ∀ D', D = D' + 1 → CountSV D') : CountSV D := by
  intro S a len cap xs w h hl hlen
  have HI := Lib.hid (And.intro h (And.intro hl (And.intro hD (And.intro hD4 (cntL_le h (by omega))))))
  obtain ⟨R, hR⟩ : ∃ R, R = sumN (cntS D) xs := ⟨_, rfl⟩
  rw [← hR]
  have HR := Lib.hid hR
  have hl2 : len ≤ 9223372036854775807 := by omega
  clear h hl hD hD4 hR
  go_enter Tryd.func40, Tryd.ntmps40
  go_wp2_with fail
  go_loopg [3, 4] len (fun G c i wr => ∃ (j : Nat), j + G = len ∧ i = .int .i64 j ∧ c = .int .i64 ((len - j : Int) + (sumN (cntS D) (xs.take j) : Nat)) ∧ Hid (∃ m, wr = w.drewN m))
  case atStart => exact ⟨0, by omega, rfl, int_eq' (by simp [sumN]), Lib.hid ⟨0, rfl⟩⟩
  case round =>
    obtain ⟨j, hj, rfl, rfl, HB⟩ := hrel
    obtain ⟨m0, hm0⟩ := HB.out
    have HBB := Lib.hid (show Below w.heap.size w wr by rw [hm0]; exact below_drewN (Below.refl _ _) _)
    have HM := Lib.hid hm0
    clear hm0 HB
    by_cases hlt : j < len
    · have hji : (j : Int) < (len : Int) := by omega
      obtain ⟨b, off, x, aa, ac, ba, bc, ea, ec, rfl, hx, hS, c0, c1, c2, c3, c4⟩ := stmt_place (HI.out.1.below (stmtP_stays D) HBB.out) (by have := HI.out.2.1; omega : j < xs.length)
      obtain ⟨D, rfl⟩ : ∃ D', D = D' + 1 := by
        cases D with
        | zero => exact hS.elim
        | succ D => exact ⟨D, rfl⟩
      obtain ⟨aa', ac', ba', bc', ea', ec', he, hb, _, hB, hE⟩ := hS
      cases he
      obtain ⟨op, name, args, body, els⟩ := x
      simp only [StmtD.op, StmtD.name, StmtD.args, StmtD.body, StmtD.els] at c0 c1 c2 c3 c4 hb hB hE
      have H1 := Lib.hid (fun n => HI.out.2.2.1 D rfl S ba body.length bc body (wr.drewN n) (hB.below (stmtP_stays D) (below_drewN (Below.refl _ _) n)) rfl hb.2.2.2.2.1)
      have H2 := Lib.hid (fun n => HI.out.2.2.1 D rfl S ea els.length ec els (wr.drewN n) (hE.below (stmtP_stays D) (below_drewN (Below.refl _ _) n)) rfl hb.2.2.2.2.2)
      have h201 := pow201 HI.out.2.2.2.1
      have hall := HI.out.2.2.2.2
      have htk : sumN (cntS (D + 1)) (xs.take (j + 1)) = sumN (cntS (D + 1)) (xs.take j) + (1 + sumN (cntS D) body + sumN (cntS D) els) := sumN_take hx
      have hle : sumN (cntS (D + 1)) (xs.take (j + 1)) ≤ sumN (cntS (D + 1)) xs := by
        have h1 := sumN_append (f := cntS (D + 1)) (xs.take (j + 1)) (xs.drop (j + 1))
        rw [List.take_append_drop] at h1
        omega
      obtain ⟨s1, hs1⟩ : ∃ s1, s1 = sumN (cntS D) body := ⟨_, rfl⟩
      obtain ⟨s2, hs2⟩ : ∃ s2, s2 = sumN (cntS D) els := ⟨_, rfl⟩
      obtain ⟨c, hc⟩ : ∃ c : Int, c = (len - j : Int) + (sumN (cntS (D + 1)) (xs.take j) : Nat) := ⟨_, rfl⟩
      obtain ⟨lb, hlb⟩ : ∃ n, n = body.length := ⟨_, rfl⟩
      obtain ⟨le, hle2⟩ : ∃ n, n = els.length := ⟨_, rfl⟩
      rw [← hlb] at c3 H1
      rw [← hle2] at c4 H2
      rw [← hs1] at H1 htk
      rw [← hs2] at H2 htk
      rw [← hc]
      have HC := Lib.hid (show c + (s1 : Int) + (s2 : Int) = (len - (j + 1 : Nat) : Int) + (sumN (cntS (D + 1)) (xs.take (j + 1)) : Nat) by omega)
      have w1 : IntKind.i64.wrap (c + (s1 : Int)) = c + (s1 : Int) := IntWalk.i64_in _ (by omega)
      have w2 : IntKind.i64.wrap (c + (s1 : Int) + (s2 : Int)) = c + (s1 : Int) + (s2 : Int) := IntWalk.i64_in _ (by omega)
      clear hx hB hE hb hlb hle2 h201 hall htk hle hs1 hs2 hc
      go_wp2_with fail
      go_quiet (first | with_reducible exact Calls.quiet_of (H1.out _) | with_reducible exact Calls.quiet_of (H2.out _))
      go_wp2
      go_roundg (gk - 1)
      case measure => omega
      case rel => exact ⟨j + 1, by omega, by go_num, int_eq' (by rw [HC.out]), Lib.hid (by have := HM.out; subst this; exact ⟨_, World.drewN_drewN _ _ _⟩)⟩
    · obtain rfl : j = len := by omega
      have HF := Lib.hid (show ((j - j : Int) + (sumN (cntS D) (xs.take j) : Nat)) = (R : Int) by
        rw [HR.out, List.take_of_length_le (by have := HI.out.2.1; omega)]; omega)
      go_wp2
      go_ret
      exact ⟨ret_int HF.out, _, HM.out⟩


theorem l3Count_any : ∀ D, D ≤ 4 → CountSV D
  | 0, h => l3Count_step 0 h (fun _ he => by cases he)
  | D + 1, h => l3Count_step (D + 1) h (fun D' he => by cases he; exact l3Count_any D (by omega))
end Go.Proofs.YtccdmgncjlpebaaDoor
