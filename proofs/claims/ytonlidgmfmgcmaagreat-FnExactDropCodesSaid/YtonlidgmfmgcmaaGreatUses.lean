
/-
  How often registers are used: what is counted.
-/
import Derived.Test.YtonlidgmfmgcmaaGreatUnitHas
namespace Go.Proofs.YtonlidgmfmgcmaaGreat
open Go.RowKit

def bump (xs : List Int) (r : Int) : List Int := xs.set r.toNat (xs.getD r.toNat 0 + 1)
/-- The numbers of a list, counted. -/
def bumps (n : Nat) (L : List Int) : List Int := L.foldl bump (List.replicate n 0)
theorem bump_len (xs : List Int) (r : Int) : (bump xs r).length = xs.length := by simp [bump]
theorem foldl_bump_len : ∀ (L : List Int) (xs : List Int), (L.foldl bump xs).length = xs.length
  | [], _ => rfl
  | r :: L, xs => by rw [List.foldl_cons, foldl_bump_len L, bump_len]
theorem bumps_len (n : Nat) (L : List Int) : (bumps n L).length = n := by rw [bumps, foldl_bump_len]; simp
theorem bumps_snoc (n : Nat) (L : List Int) (r : Int) : bumps n (L ++ [r]) = bump (bumps n L) r := by simp [bumps]
theorem bump_mem {xs : List Int} {r : Int} {m : Int} (h : ∀ x ∈ xs, 0 ≤ x ∧ x ≤ m) (hm : 0 ≤ m) : ∀ x ∈ bump xs r, 0 ≤ x ∧ x ≤ m + 1 := by
  intro x hx
  unfold bump at hx
  rcases List.mem_or_eq_of_mem_set hx with h1 | h1
  · have := h x h1; omega
  · subst h1
    rw [List.getD_eq_getElem?_getD]
    cases hg : xs[r.toNat]? with
    | none => simp; omega
    | some y => have := h y (List.mem_of_getElem? hg); simp; omega
theorem bumps_mem (n : Nat) : ∀ (L : List Int) (xs : List Int) (m : Int), (∀ x ∈ xs, 0 ≤ x ∧ x ≤ m) → 0 ≤ m → ∀ x ∈ L.foldl bump xs, 0 ≤ x ∧ x ≤ m + L.length
  | [], xs, m, h, hm => by simpa using h
  | r :: L, xs, m, h, hm => by
    intro x hx
    rw [List.foldl_cons] at hx
    have := bumps_mem n L (bump xs r) (m + 1) (bump_mem h hm) (by omega) x hx
    simp only [List.length_cons]
    omega
theorem bumps_range {n : Nat} {L : List Int} {i : Nat} {x : Int} (h : (bumps n L)[i]? = some x) : 0 ≤ x ∧ x ≤ L.length := by
  have := bumps_mem n L (List.replicate n 0) 0 (fun y hy => by have := List.eq_of_mem_replicate hy; omega) (by omega) x (List.mem_of_getElem? h)
  omega
theorem bumps_get {n : Nat} (L : List Int) {r : Int} (h0 : 0 ≤ r) (h1 : r < n) : ∃ x, (bumps n L)[r.toNat]? = some x ∧ (bumps n L).getD r.toNat 0 = x ∧ 0 ≤ x ∧ x ≤ L.length := by
  have hl := bumps_len n L
  have : (bumps n L)[r.toNat]? = some ((bumps n L)[r.toNat]'(by omega)) := List.getElem?_eq_getElem _
  refine ⟨_, this, ?_, bumps_range this⟩
  rw [List.getD_eq_getElem?_getD, this]; rfl

def phiArgs (fs : List PhiD) : List Int := fs.flatMap (·.args)
def insArgsL (is : List InsD) : List Int := is.flatMap (·.args)
def onArgs (x : BlockD) : List Int := if usesJ x.jump then [x.jon] else []
/-- The registers that a block uses, each as often as it does. -/
def blockArgs (x : BlockD) : List Int := phiArgs x.phis ++ insArgsL x.ins ++ onArgs x
def codeArgs (c : CodeD) : List Int := c.blocks.flatMap blockArgs
theorem flat_succ {α : Type} {f : α → List Int} {xs : List α} {i : Nat} {x : α} (h : xs[i]? = some x) : (xs.take (i + 1)).flatMap f = (xs.take i).flatMap f ++ f x := by
  rw [take_succ_of h, List.flatMap_append]; simp
theorem flat_take_len {α : Type} (f : α → List Int) : ∀ (xs : List α) (i : Nat), ((xs.take i).flatMap f).length ≤ (xs.flatMap f).length
  | [], i => by simp
  | x :: xs, 0 => by simp
  | x :: xs, i + 1 => by
    have := flat_take_len f xs i
    simp only [List.take_succ_cons, List.flatMap_cons, List.length_append]
    omega
theorem flat_len {α : Type} {f : α → List Int} {g : α → Nat} (h : ∀ x, (f x).length ≤ g x) : ∀ xs : List α, (xs.flatMap f).length ≤ sumOf g xs
  | [] => by simp [sumOf]
  | x :: xs => by
    have := flat_len h xs
    have := h x
    rw [sumOf_cons]
    simp only [List.flatMap_cons, List.length_append]
    omega
theorem phiArgs_len (fs : List PhiD) : (phiArgs fs).length ≤ szS szPhiD fs := by
  have := flat_len (f := fun f : PhiD => f.args) (g := szPhiD) (fun f => Nat.le_refl _) fs
  unfold phiArgs szS
  omega
theorem insArgsL_len (is : List InsD) : (insArgsL is).length ≤ szS szInsD is := by
  have := flat_len (f := fun i : InsD => i.args) (g := szInsD) (fun f => Nat.le_refl _) is
  unfold insArgsL szS
  omega
theorem blockArgs_len (x : BlockD) : (blockArgs x).length ≤ szBlockD x + 1 := by
  have := phiArgs_len x.phis
  have := insArgsL_len x.ins
  have : (onArgs x).length ≤ 1 := by unfold onArgs; split <;> simp
  unfold blockArgs szBlockD
  simp only [List.length_append]
  omega
theorem sumOf_add (sz : BlockD → Nat) : ∀ xs : List BlockD, sumOf (fun x => sz x + 1) xs = sumOf sz xs + xs.length
  | [] => rfl
  | x :: xs => by
    have := sumOf_add sz xs
    rw [sumOf_cons, sumOf_cons, this, List.length_cons]; omega
theorem codeArgs_len (c : CodeD) : (codeArgs c).length ≤ szCodeD c := by
  have := flat_len (f := blockArgs) (g := fun x => szBlockD x + 1) blockArgs_len c.blocks
  rw [sumOf_add] at this
  unfold codeArgs szCodeD szS
  omega

theorem allTo_true {p : Nat → Bool} : ∀ {n : Nat}, allTo p n = true → ∀ i, i < n → p i = true
  | 0, _, i, hi => by omega
  | n + 1, h, i, hi => by
    rw [allTo, Bool.and_eq_true] at h
    by_cases he : i = n
    · subst he; exact h.2
    · exact allTo_true h.1 i (by omega)
theorem unit_code {us : List CodeD} {k : Nat} {c : CodeD} (hu : unitB us = true) (hk : us[k]? = some c) : codeB us k c = true := by
  rw [unitB, Bool.and_eq_true, Bool.and_eq_true] at hu
  have := allTo_true hu.1.2 k (List.getElem?_eq_some_iff.1 hk).1
  rw [hk] at this
  exact this
theorem code_lims {us : List CodeD} {k : Nat} {c : CodeD} (h : codeB us k c = true) : (0 ≤ c.regs ∧ c.regs ≤ 300) ∧ (0 ≤ c.params ∧ c.params ≤ c.regs) ∧ 1 ≤ c.blocks.length ∧ c.blocks.length ≤ 160 := by
  obtain ⟨params, regs, blocks⟩ := c
  rw [codeB, Bool.and_eq_true, limsB_spec] at h
  have h1 := h.1
  simp at h1
  refine ⟨?_, ?_, ?_, ?_⟩ <;> simp only <;> omega
theorem code_block {us : List CodeD} {k b : Nat} {c : CodeD} {x : BlockD} (h : codeB us k c = true) (hx : c.blocks[b]? = some x) : blockB us k c b x = true := by
  rw [codeB, Bool.and_eq_true] at h
  have := allTo_true h.2 b (List.getElem?_eq_some_iff.1 hx).1
  rw [hx] at this
  exact this
theorem any_false {α : Type} {p : α → Bool} {xs : List α} (h : xs.any p = false) : ∀ x ∈ xs, p x = false := fun x hx => by
  cases hp : p x with
  | false => rfl
  | true => rw [List.any_eq_true.2 ⟨x, hx, hp⟩] at h; cases h
theorem inR_iff {n r : Int} : inR n r = true ↔ 0 ≤ r ∧ r < n := by simp [inR]; omega
theorem args_ok {n : Int} {l : List Int} (h : (!l.any (fun r => !inR n r)) = true) : ∀ r ∈ l, 0 ≤ r ∧ r < n := fun r hr => by
  have h1 : l.any (fun r => !inR n r) = false := by simpa using h
  have h2 := any_false h1 r hr
  exact inR_iff.1 (by simpa using h2)
theorem block_args {us : List CodeD} {k b : Nat} {c : CodeD} {x : BlockD} (h : blockB us k c b x = true) : ∀ r ∈ blockArgs x, 0 ≤ r ∧ r < c.regs := by
  rw [blockB, Bool.and_eq_true, Bool.and_eq_true, Bool.and_eq_true] at h
  obtain ⟨⟨⟨hj, _⟩, hi⟩, hp⟩ := h
  intro r hr
  unfold blockArgs at hr
  rcases List.mem_append.1 hr with hr | hr
  · rcases List.mem_append.1 hr with hr | hr
    · obtain ⟨f, hf, hrf⟩ := List.mem_flatMap.1 hr
      have h1 := List.all_eq_true.1 hp f hf
      rw [phiB, Bool.and_eq_true] at h1
      exact args_ok h1.2 r hrf
    · obtain ⟨i, hin, hri⟩ := List.mem_flatMap.1 hr
      have h1 : x.ins.any (fun i => !insB us k c.regs i) = false := by simpa using hi
      have h2 := any_false h1 i hin
      have h3 : insB us k c.regs i = true := by simpa using h2
      rw [insB, Bool.and_eq_true, Bool.and_eq_true, Bool.and_eq_true] at h3
      exact args_ok h3.1.1.2 r hri
  · unfold onArgs at hr
    rw [jumpB, Bool.and_eq_true] at hj
    by_cases hu : usesJ x.jump = true
    · rw [if_pos hu] at hr hj
      simp at hr
      subst hr
      exact inR_iff.1 hj.2
    · rw [if_neg hu] at hr
      cases hr
theorem code_args {us : List CodeD} {k : Nat} {c : CodeD} (h : codeB us k c = true) : ∀ r ∈ codeArgs c, 0 ≤ r ∧ r < c.regs := by
  intro r hr
  obtain ⟨x, hx, hrx⟩ := List.mem_flatMap.1 hr
  obtain ⟨b, hb⟩ := List.getElem?_of_mem hx
  exact block_args (code_block h hb) r hrx

def usesP (us : List CodeD) (k r : Int) : Int :=
  if hasB us k then ((us[k.toNat]?).map (fun c => if inR c.regs r then (bumps c.regs.toNat (codeArgs c)).getD r.toNat 0 else -1)).getD (-1) else -1

end Go.Proofs.YtonlidgmfmgcmaaGreat
