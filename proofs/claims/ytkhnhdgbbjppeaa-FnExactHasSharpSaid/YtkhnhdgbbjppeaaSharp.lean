
/-
  HasSharp, the reference's and the program's.
-/
import Derived.Test.YtkhnhdgbbjppeaaPreds
import Derived.Test.YtkhnhdgbbjppeaaSort
namespace Go.Proofs.Ytkhnhdgbbjppeaa
open Go.RowKit

def twoL (l : List Int) : Bool := l.any (fun y => y != l.getD 0 0)
def manyB (g : List (List Int)) (x : Int) : Bool := decide (1 < (preds g x).length)
def sharpAt (g : List (List Int)) (l : List Int) : Bool := twoL l && l.any (manyB g)
def sharpP (g : List (List Int)) : Bool := fits g && g.any (sharpAt g)
def shStep (g : List (List Int)) (out : List Int) (x : Int) : List Int := if manyB g x && !decide (x ∈ out) then out ++ [x] else out
def sharpL (g : List (List Int)) (l : List Int) : List Int := if (sortU l).length < 2 then [] else l.foldl (shStep g) []
theorem shStep_mem {g : List (List Int)} {out : List Int} {x z : Int} : z ∈ shStep g out x ↔ z ∈ out ∨ (z = x ∧ manyB g x = true) := by
  unfold shStep
  by_cases hm : manyB g x = true
  · by_cases hx : x ∈ out
    · rw [if_neg (by simp [hx])]
      constructor
      · exact .inl
      · rintro (h | ⟨rfl, _⟩)
        · exact h
        · exact hx
    · rw [if_pos (by simp [hm, hx])]
      simp [hm]
  · rw [if_neg (by simp [hm])]
    constructor
    · exact .inl
    · rintro (h | ⟨_, h⟩)
      · exact h
      · exact absurd h hm
theorem shFold_mem {g : List (List Int)} {z : Int} : ∀ (l out : List Int), z ∈ l.foldl (shStep g) out ↔ z ∈ out ∨ (z ∈ l ∧ manyB g z = true)
  | [], out => by simp
  | x :: l, out => by
    rw [List.foldl_cons, shFold_mem l, shStep_mem, List.mem_cons]
    constructor
    · rintro ((h | ⟨rfl, h⟩) | ⟨h, h2⟩)
      · exact .inl h
      · exact .inr ⟨.inl rfl, h⟩
      · exact .inr ⟨.inr h, h2⟩
    · rintro (h | ⟨rfl | h, h2⟩)
      · exact .inl (.inl h)
      · exact .inl (.inr ⟨rfl, h2⟩)
      · exact .inr ⟨h, h2⟩
theorem shFold_len (g : List (List Int)) : ∀ (l out : List Int), (l.foldl (shStep g) out).length ≤ out.length + l.length
  | [], out => by simp
  | x :: l, out => by
    have h := shFold_len g l (shStep g out x)
    have h2 : (shStep g out x).length ≤ out.length + 1 := by unfold shStep; split <;> simp
    simp only [List.foldl_cons, List.length_cons]; omega
theorem two_of_len {l : List Int} : decide ((sortU l).length < 2) = !twoL l := by
  cases hl : l with
  | nil =>
    have : sortU [] = [] := sortU_of_asc (by simp [Asc]) (by simp)
    rw [this]; rfl
  | cons a l =>
    have ha : a ∈ sortU (a :: l) := sortU_mem.2 (by simp)
    by_cases h : twoL (a :: l) = true
    · have h2 := h
      rw [twoL, List.any_eq_true] at h2
      obtain ⟨y, hy, hne⟩ := h2
      have hne : y ≠ a := by simpa using hne
      have hy2 : y ∈ sortU (a :: l) := sortU_mem.2 hy
      have : ¬ (sortU (a :: l)).length < 2 := by
        intro hlt
        match hs : sortU (a :: l), hlt with
        | [], _ => rw [hs] at ha; simp at ha
        | [z], _ => rw [hs] at ha hy2; simp at ha hy2; exact hne (by rw [hy2, ha])
        | _ :: _ :: _, hlt => simp at hlt; omega
      rw [h]; simp; omega
    · have h' : twoL (a :: l) = false := by simpa using h
      rw [h']
      have hall : ∀ z ∈ a :: l, z = a := by
        intro z hz
        rw [twoL, List.any_eq_false] at h'
        have := h' z hz
        simpa using this
      have h1 : sortU (a :: l) = [a] := sortU_of_asc (by simp [Asc]) (fun z => by
        constructor
        · intro hz; simp at hz; subst hz; simp
        · intro hz; simp [hall z hz])
      rw [h1]; rfl
theorem sharpL_pos (g : List (List Int)) (l : List Int) : decide (0 < (sharpL g l).length) = sharpAt g l := by
  have h2 := two_of_len (l := l)
  unfold sharpL sharpAt
  by_cases h : (sortU l).length < 2
  · rw [if_pos h]
    rw [decide_eq_true h] at h2
    have : twoL l = false := by simpa using h2.symm
    rw [this]; rfl
  · rw [if_neg h]
    rw [decide_eq_false h] at h2
    have : twoL l = true := by simpa using h2.symm
    rw [this, Bool.true_and]
    by_cases ha : l.any (manyB g) = true
    · rw [ha]
      obtain ⟨z, hz, hm⟩ := List.any_eq_true.1 ha
      have hmem : z ∈ l.foldl (shStep g) [] := (shFold_mem l []).2 (.inr ⟨hz, hm⟩)
      exact decide_eq_true (List.length_pos_of_mem hmem)
    · have ha' : l.any (manyB g) = false := by simpa using ha
      rw [ha']
      have : l.foldl (shStep g) [] = [] := by
        apply List.eq_nil_iff_forall_not_mem.2
        intro z hz
        rcases (shFold_mem l []).1 hz with h1 | ⟨h1, h3⟩
        · simp at h1
        · rw [List.any_eq_false] at ha'
          exact ha' z h1 h3
      rw [this]; rfl
theorem two_take {l : List Int} {k : Nat} {y : Int} (h : l[k]? = some y) : (l.take (k + 1)).any (fun z => z != l.getD 0 0) = ((l.take k).any (fun z => z != l.getD 0 0) || (y != l.getD 0 0)) := by
  rw [take_succ_of h, List.any_append]; simp

/-! ### the reference -/
set_option maxRecDepth 100000 in
set_option maxHeartbeats 2000000 in
theorem l10Sharp_any (p r : Int) (ba : Option Addr) (bc : Nat) (g : List (List Int)) (b i : Nat) (l : List Int) (x : Int) (hb : g[b]? = some l) (hx : l[i]? = some x) (w : World) (hg : Gr w ba g) :
    Calls Try.prog 70 #[.agg #[.int .i64 p, .int .i64 r, .slice ba g.length bc], .int .i64 (b : Int), .int .i64 (i : Int)] w fun e w' => e = .returned (.bool (twoL l && manyB g x)) ∧ Below w.heap.size w w' := by
  have hb0 := below_box w (.int .i64 p) (.int .i64 r) (.slice ba g.length bc)
  have HC := Lib.hid (heap_alloc_new w (.cells #[.int .i64 p, .int .i64 r, .slice ba g.length bc] 51))
  have hlen := hg.len
  have hbn : b < g.length := (List.getElem?_eq_some_iff.1 hb).1
  have hin : i < l.length := (List.getElem?_eq_some_iff.1 hx).1
  obtain ⟨b1, o1, l2, na, nc, rfl, hl2, c4, hrd⟩ := hg.place hbn
  obtain rfl : l2 = l := by rw [hb] at hl2; exact (Option.some.inj hl2).symm
  have hll := hg.row hb
  have hk2 : (w.alloc (.cells #[.int .i64 p, .int .i64 r, .slice (some ⟨b1, o1, none⟩) g.length bc] 51)).cell? ⟨w.heap.size, 2, none⟩ = some (.slice (some ⟨b1, o1, none⟩) g.length bc) := cell_of_row _ _ 2 _ _ _ HC.out
  have d4 := cell_later hb0 c4
  have hrd0 := hrd.later hb0
  have hbi : (b : Int) < (g.length : Int) := by omega
  have hii : (i : Int) < (l2.length : Int) := by omega
  have HX := Lib.hid (And.intro hx (And.intro hg hb0))
  clear hb hx hl2 c4 hrd
  go_enter Try.func70, Try.ntmps70
  go_wp2_with fail
  generalize w.alloc (.cells #[.int .i64 p, .int .i64 r, .slice (some ⟨b1, o1, none⟩) g.length bc] 51) = W0 at HC HX hk2 d4 hrd0 hb0 ⊢
  clear hk2 d4
  go_loopg [8, 9] l2.length (fun F t j wr => ∃ k : Nat, k + F = l2.length ∧ j = .int .i64 k ∧ ∃ tb : Bool, t = .bool tb ∧ Hid (tb = (l2.take k).any (fun z => z != l2.getD 0 0)) ∧ Below W0.heap.size W0 wr)
  case atStart => exact ⟨0, by omega, rfl, false, rfl, Lib.hid rfl, Below.refl _ _⟩
  case round =>
    obtain ⟨k, hk, rfl, tb, rfl, HT, hbr⟩ := hrel
    by_cases hlt : k < l2.length
    · obtain ⟨b3, o3, y, rfl, hy, hcy⟩ := (hrd0.later hbr).place hlt
      obtain ⟨b4, o4, x0, hab, hx0, hcx0⟩ := (hrd0.later hbr).place (i := 0) (by omega)
      cases hab
      rw [Nat.add_zero] at hcx0
      have hg0 : l2.getD 0 0 = x0 := by rw [List.getD_eq_getElem?_getD, hx0]; rfl
      have HS := Lib.hid (two_take hy)
      rw [hg0] at HS
      have HT2 := Lib.hid (show tb = (l2.take k).any (fun z => z != x0) by rw [← hg0]; exact HT.out)
      have HG0 := Lib.hid hg0
      have h0n : 0 < l2.length := by omega
      have h0l : (0 : Int) < (l2.length : Int) := by omega
      have h0d : decide ((0 : Int) < (l2.length : Int)) = true := decide_eq_true h0l
      clear hy hx0 HT hg0
      cases tb with
      | true =>
        go_wp2_with fail
        go_quiet (fail)
        go_wp2
        go_roundg (gk - 1)
        case measure => omega
        case rel => exact ⟨k + 1, by omega, by go_num, true, rfl, Lib.hid (by rw [HG0.out, HS.out, ← HT2.out]; rfl), below_drewN hbr _⟩
      | false =>
        go_wp2_with fail
        go_quiet (fail)
        go_wp2
        go_roundg (gk - 1)
        case measure => omega
        case rel => exact ⟨k + 1, by omega, by go_num, y != x0, rfl, Lib.hid (by rw [HG0.out, HS.out, ← HT2.out]; rfl), below_drewN hbr _⟩
    · obtain rfl : k = l2.length := by omega
      have HT2 := Lib.hid (show tb = twoL l2 by have h := HT.out; rw [List.take_length] at h; exact h)
      have HBR := Lib.hid (HX.out.2.2.trans (hbr.mono HX.out.2.2.size))
      have hblk := (hbr.block w.heap.size (Array.getElem?_eq_some_iff.1 HC.out).1).trans HC.out
      have k0 : wr.cell? ⟨w.heap.size, 0, none⟩ = some (.int .i64 p) := cell_of_row _ _ 0 _ _ _ hblk
      have k1 : wr.cell? ⟨w.heap.size, 1, none⟩ = some (.int .i64 r) := cell_of_row _ _ 1 _ _ _ hblk
      have k2 : wr.cell? ⟨w.heap.size, 2, none⟩ = some (.slice (some ⟨b1, o1, none⟩) g.length bc) := cell_of_row _ _ 2 _ _ _ hblk
      clear HT hblk
      cases tb with
      | false =>
        go_wp2_with fail
        go_quiet (fail)
        go_wp2
        go_ret
        exact ⟨ret_bool (by rw [← HT2.out]; rfl), below_drewN HBR.out _⟩
      | true =>
        obtain ⟨b3, o3, y, rfl, hy, hcy⟩ := (hrd0.later hbr).place hin
        obtain rfl : y = x := by have h := HX.out.1; rw [h] at hy; exact (Option.some.inj hy).symm
        have HP := Lib.hid (fun q : Nat => l7Preds_any p r (some ⟨b1, o1, none⟩) bc g y (wr.drewN q) (HX.out.2.1.later (below_drewN HBR.out q)))
        obtain ⟨pl, hpl⟩ : ∃ pl, pl = (preds g y).length := ⟨_, rfl⟩
        have HPL := Lib.hid hpl
        have hpl2 := preds_len g y
        have HV := Lib.hid (show (twoL l2 && manyB g y) = decide (1 < pl) by rw [← HT2.out, Bool.true_and, manyB, hpl])
        rw [← hpl] at hpl2
        clear hy hpl HT2
        by_cases h1 : 1 < pl
        · have d1 : decide ((1 : Int) < (pl : Int)) = true := decide_eq_true (by omega)
          have d2 : decide (1 < pl) = true := decide_eq_true h1
          have hi1 : (1 : Int) < (pl : Int) := by omega
          have HV2 := Lib.hid (HV.out.trans d2)
          go_wp2_with fail
          go_region_law (first | (go_simp; go_at_call 109; refine (HP.out _).mono ?_; rw [← HPL.out]; rintro e w2 ⟨a2, c2, rfl, hown2, hb2⟩))
          all_goals
            have HN := Lib.hid (HBR.out.trans (show Below w.heap.size wr _ from ⟨hb2.os, hb2.tape, hb2.output, hb2.size, fun k hk => hb2.block k (Nat.lt_of_lt_of_le hk HBR.out.size)⟩))
            clear hb2 hown2
            go_wp2
            go_ret
            exact ⟨ret_bool HV2.out.symm, HN.out⟩
        · have d1 : decide ((1 : Int) < (pl : Int)) = false := decide_eq_false (by omega)
          have d2 : decide (1 < pl) = false := decide_eq_false h1
          have HV2 := Lib.hid (HV.out.trans d2)
          go_wp2_with fail
          go_region_law (first | (go_simp; go_at_call 109; refine (HP.out _).mono ?_; rw [← HPL.out]; rintro e w2 ⟨a2, c2, rfl, hown2, hb2⟩))
          all_goals
            have HN := Lib.hid (HBR.out.trans (show Below w.heap.size wr _ from ⟨hb2.os, hb2.tape, hb2.output, hb2.size, fun k hk => hb2.block k (Nat.lt_of_lt_of_le hk HBR.out.size)⟩))
            clear hb2 hown2
            go_wp2
            go_ret
            exact ⟨ret_bool HV2.out.symm, HN.out⟩

end Go.Proofs.Ytkhnhdgbbjppeaa
