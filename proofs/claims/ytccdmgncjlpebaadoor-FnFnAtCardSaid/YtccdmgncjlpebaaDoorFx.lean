/-
  Where a function of a name stands: the program's and the reference's FnAt.
-/
import Derived.Test.YtccdmgncjlpebaaDoorIx

namespace Go.Proofs.YtccdmgncjlpebaaDoor
open Go.RowKit
set_option linter.unusedVariables false

def sameF (s : ByteArray) (f : FnD) : Bool := f.name.toList == s.toList
theorem idxR_form {α : Type} {p : α → Bool} : ∀ (xs : List α) (k : Nat), (idxR p k xs = -1 ∧ ∀ (i : Nat) z, xs[i]? = some z → p z = false) ∨ ∃ (j : Nat) (y : α), xs[j]? = some y ∧ p y = true ∧ (∀ (i : Nat) z, i < j → xs[i]? = some z → p z = false) ∧ idxR p k xs = ((k + j : Nat) : Int)
  | [], _ => .inl ⟨rfl, fun i z h => by simp at h⟩
  | x :: xs, k => by
    rw [idxR]
    cases hx : p x with
    | true => exact .inr ⟨0, x, rfl, hx, fun i z h => by omega, rfl⟩
    | false =>
      rw [if_neg (by decide)]
      rcases idxR_form xs (k + 1) with ⟨h1, h2⟩ | ⟨j, y, h1, h2, h3, h4⟩
      · refine .inl ⟨h1, fun i z h => ?_⟩
        match i with
        | 0 => cases h; exact hx
        | i + 1 => exact h2 i z h
      · refine .inr ⟨j + 1, y, h1, h2, fun i z hi h => ?_, by rw [h4]; omega⟩
        match i with
        | 0 => cases h; exact hx
        | i + 1 => exact h3 i z (by omega) h
/-- What the law asks of the place. -/
theorem idxR_law {α : Type} (p : α → Bool) (xs : List α) : -1 ≤ idxR p 0 xs ∧ idxR p 0 xs < (xs.length : Int) ∧ ∀ (i : Nat) z, xs[i]? = some z → (p z = true → 0 ≤ idxR p 0 xs ∧ idxR p 0 xs ≤ (i : Int)) ∧ (p z = false → (i : Int) ≠ idxR p 0 xs) := by
  rcases idxR_form (p := p) xs 0 with ⟨h1, h2⟩ | ⟨j, y, h1, h2, h3, h4⟩
  · rw [h1]
    exact ⟨by omega, by omega, fun i z h => ⟨fun hz => (by rw [h2 i z h] at hz; cases hz), fun _ => by omega⟩⟩
  · rw [h4]
    have hj := (List.getElem?_eq_some_iff.1 h1).1
    refine ⟨by omega, by omega, fun i z h => ⟨fun hz => ⟨by omega, ?_⟩, fun hz e => ?_⟩⟩
    · by_cases hi : i < j
      · rw [h3 i z hi h] at hz; cases hz
      · omega
    · obtain rfl : i = j := by omega
      rw [h1] at h; cases h
      rw [h2] at hz; cases hz

set_option maxRecDepth 100000 in
theorem fnAtT_any (nb : Nat) (s : ByteArray) (D : Nat) (S : Nat → Prop) (cs : List Value) (x : FnD) (w : World) (hx : FnP D S w cs x) (hn : w.cell? ⟨nb, 0, none⟩ = some (.string s)) :
    Calls Tryd.prog 14 (#[.agg cs.toArray] ++ #[.pointer (some ⟨nb, 0, none⟩)]) w fun e w' => e = .returned (.bool (sameF s x)) ∧ Below w.heap.size w w' := by
  obtain ⟨pa, pc, ba, bc, rfl, -, -, -⟩ := hx
  show Calls _ _ #[.agg #[.string x.name, .slice pa x.params.length pc, .slice ba x.body.length bc], _] w _
  have hba : Below w.heap.size w (w.alloc (.cells #[.string x.name, .slice pa x.params.length pc, .slice ba x.body.length bc] 32)) := (Below.refl _ _).alloc (Nat.le_refl _) _
  have hrow := heap_alloc_new w (.cells #[.string x.name, .slice pa x.params.length pc, .slice ba x.body.length bc] 32)
  have e0 := cell_of_row _ _ 0 _ _ _ hrow
  simp only [List.getElem?_toArray, List.getElem?_cons_zero] at e0
  have n0 := cell_later hba hn
  have HB := Lib.hid hba
  clear hba hrow hn
  go_enter Tryd.func14, Tryd.ntmps14
  go_wp2
  go_ret
  exact ⟨rfl, HB.out⟩
set_option maxRecDepth 100000 in
set_option maxHeartbeats 2000000 in
theorem fnAtI_any (D : Nat) (S : Nat → Prop) (a : Option Addr) (c : Nat) (p : List FnD) (s : ByteArray) (w : World) (h : ListK 3 (FnP D) S w a p) (hl : p.length ≤ 100) :
    Calls Tryd.prog 5 #[.agg #[.slice a p.length c], .string s] w fun e w' => e = .returned (.int .i64 (idxR (sameF s) 0 p)) ∧ Below w.heap.size w w' := by
  have hmf : ∀ (fn : Fn) (first cap : Array Value) (w : World), (Instr.makeFunc fn first cap).run Tryd.prog w = .ok (.func fn first cap) w := fun _ _ _ _ => rfl
  have hb1 : Below w.heap.size w ((w.alloc (.cells #[.slice a p.length c] 25)).alloc (.cells #[.string s] 9)) := ((Below.refl _ _).alloc (Nat.le_refl _) _).alloc (by simp) _
  have s0 := cell_of_row _ _ 0 _ _ _ (heap_alloc_new (w.alloc (.cells #[.slice a p.length c] 25)) (.cells #[.string s] 9))
  have p0 := cell_later ((Below.refl _ _).alloc (Nat.le_refl _) (.cells #[.string s] 9)) (cell_of_row _ _ 0 _ _ _ (heap_alloc_new w (.cells #[.slice a p.length c] 25)))
  rw [World.size_alloc] at s0
  simp only [List.getElem?_toArray, List.getElem?_cons_zero] at p0 s0
  have HI := Lib.hid (idxF_any 14 #[.pointer (some ⟨w.heap.size + 1, 0, none⟩)] D S (sameF s) a c p _ (h.below (fnP_stays D) hb1) (by omega) ⟨fun v W => by kernel_rfl, fun x _ cs W hW hx => fnAtT_any _ s D S cs x W hx (cell_later hW s0)⟩)
  have HB := Lib.hid hb1
  clear hb1 h s0
  go_enter Tryd.func5, Tryd.ntmps5
  go_wp2_with fail
  refine HI.out.mono ?_
  rintro e w2 ⟨rfl, hb2⟩
  have HE := Lib.hid (HB.out.trans (hb2.mono HB.out.size))
  clear hb2 p0
  go_wp2
  go_ret
  exact ⟨rfl, HE.out⟩

set_option maxRecDepth 100000 in
set_option maxHeartbeats 2000000 in
theorem fnAtS_any (D : Nat) (S : Nat → Prop) (a : Option Addr) (c : Nat) (p : List FnD) (s : ByteArray) (w : World) (h : ListK 3 (FnP D) S w a p) (hl : p.length ≤ 100) :
    Calls Tryd.prog 6 #[.agg #[.slice a p.length c], .string s] w fun e w' => e = .returned (.int .i64 (idxR (sameF s) 0 p)) ∧ Below w.heap.size w w' := by
  obtain ⟨R, hR⟩ : ∃ R, R = idxR (sameF s) 0 p := ⟨_, rfl⟩
  rw [← hR]
  have HR := Lib.hid hR
  have hba : Below w.heap.size w (w.alloc (.cells #[.slice a p.length c] 25)) := (Below.refl _ _).alloc (Nat.le_refl _) _
  have HB := Lib.hid (And.intro hba (And.intro (h.below (fnP_stays D) hba) hl))
  have hrow := heap_alloc_new w (.cells #[.slice a p.length c] 25)
  have hl2 : p.length ≤ 9223372036854775807 := by omega
  clear hba h hR
  go_enter Tryd.func6, Tryd.ntmps6
  go_upto_region 1 with fail
  obtain ⟨pb, hpb⟩ : ∃ b, b = w.heap.size := ⟨_, rfl⟩
  rw [← hpb] at hrow ⊢
  generalize w.alloc (.cells #[.slice a p.length c] 25) = W1 at hrow HB ⊢
  have HBW := Lib.hid (show Below w.heap.size w W1 from HB.out.1)
  clear hpb
  have p0 := cell_of_row _ _ 0 _ _ _ hrow
  simp only [List.getElem?_toArray, List.getElem?_cons_zero] at p0
  clear hrow
  go_wp2_with fail
  go_loopg [5] p.length (fun G i wr => ∃ (j : Nat), j + G = p.length ∧ i = .int .i64 j ∧ Hid (Below W1.heap.size W1 wr ∧ (p.take j).any (sameF s) = false))
  case atStart => exact ⟨0, by omega, rfl, Lib.hid ⟨Below.refl _ _, rfl⟩⟩
  case round =>
    obtain ⟨j, hj, rfl, HG⟩ := hrel
    have q0 := cell_later HG.out.1 p0
    have HBr := Lib.hid (HBW.out.trans (HG.out.1.mono HBW.out.size))
    clear p0
    by_cases hlt : j < p.length
    · have hji : (j : Int) < (p.length : Int) := by omega
      obtain ⟨b, off, x, pa, pc, ba, bc, rfl, hx, hF, c0, c1, c2⟩ := fn_place (HB.out.2.1.below (fnP_stays D) HG.out.1) hlt
      have HX := Lib.hid hx
      clear hx hF
      cases hv : sameF s x with
      | false =>
        have HT := Lib.hid (show (p.take (j + 1)).any (sameF s) = false by rw [any_take HX.out, HG.out.2, hv]; rfl)
        have hv2 : (x.name.toList == s.toList) = false := hv
        clear hv
        go_wp2
        go_roundg (gk - 1)
        case measure => omega
        case rel => exact ⟨j + 1, by omega, by go_num, Lib.hid ⟨HG.out.1, HT.out⟩⟩
      | true =>
        have HT := Lib.hid (show (j : Int) = R by rw [HR.out]; exact (idxR_hit HX.out hv HG.out.2).symm)
        have hv2 : (x.name.toList == s.toList) = true := hv
        clear hv
        go_wp2
        go_ret
        exact ⟨ret_int HT.out, HBr.out⟩
    · obtain rfl : j = p.length := by omega
      have HT := Lib.hid (show (-1 : Int) = R by
        have h1 := HG.out.2
        rw [List.take_length] at h1
        rw [HR.out, idxR_miss h1])
      go_wp2
      go_ret
      exact ⟨ret_int HT.out, HBr.out⟩

end Go.Proofs.YtccdmgncjlpebaaDoor
