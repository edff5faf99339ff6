
/-
  The places that set registers: what they are. No program in sight.
-/
import Derived.Test.YtkhnhdgbbjppeaaUsesIn
namespace Go.Proofs.Ytkhnhdgbbjppeaa
open Go.RowKit

abbrev Pl := Int × Int
/-- At register r a place more. -/
def addAt (P : List (List Pl)) (e : Int × Pl) : List (List Pl) := P.set e.1.toNat (P.getD e.1.toNat [] ++ [e.2])
def setsP (n : Nat) (L : List (Int × Pl)) : List (List Pl) := L.foldl addAt (List.replicate n [])
theorem foldl_addAt_len : ∀ (L : List (Int × Pl)) (P : List (List Pl)), (L.foldl addAt P).length = P.length
  | [], _ => rfl
  | e :: L, P => by rw [List.foldl_cons, foldl_addAt_len L]; simp [addAt]
theorem setsP_len (n : Nat) (L : List (Int × Pl)) : (setsP n L).length = n := by rw [setsP, foldl_addAt_len]; simp
theorem setsP_snoc (n : Nat) (L : List (Int × Pl)) (e : Int × Pl) : setsP n (L ++ [e]) = addAt (setsP n L) e := by simp [setsP]
theorem addAt_row {P : List (List Pl)} {e : Int × Pl} {j m : Nat} {ps : List Pl} (hP : ∀ (i : Nat) ps, P[i]? = some ps → ps.length ≤ m) (h : (addAt P e)[j]? = some ps) : ps.length ≤ m + 1 := by
  unfold addAt at h
  rw [List.getElem?_set] at h
  split at h
  · split at h
    · cases h
      rw [List.length_append, List.getD_eq_getElem?_getD]
      cases hg : P[e.1.toNat]? with
      | none => simp
      | some q => have := hP _ q hg; simp; omega
    · cases h
  · have := hP j ps h; omega
theorem setsP_row (n : Nat) : ∀ (L : List (Int × Pl)) (P : List (List Pl)) (m : Nat), (∀ (i : Nat) ps, P[i]? = some ps → ps.length ≤ m) → ∀ (i : Nat) ps, (L.foldl addAt P)[i]? = some ps → ps.length ≤ m + L.length
  | [], P, m, h => by simpa using h
  | e :: L, P, m, h => by
    intro i ps hi
    rw [List.foldl_cons] at hi
    have := setsP_row n L (addAt P e) (m + 1) (fun i ps hi => addAt_row h hi) i ps hi
    simp only [List.length_cons]; omega
theorem setsP_small {n : Nat} {L : List (Int × Pl)} {i : Nat} {ps : List Pl} (h : (setsP n L)[i]? = some ps) : ps.length ≤ L.length := by
  have := setsP_row n L (List.replicate n []) 0 (fun i ps hi => by rw [List.getElem?_replicate] at hi; split at hi <;> simp at hi; subst hi; simp) i ps h
  omega

/-- What the phis of block b set, and its instructions. -/
def evPhis (b : Nat) (fs : List PhiD) : List (Int × Pl) := fs.map (fun f => (f.to, ((b : Int), (-1 : Int))))
def evTo (b : Nat) (is : List InsD) : Nat → List (Int × Pl)
  | 0 => []
  | i + 1 => evTo b is i ++ (match is[i]? with | some x => if makesB x.op then [(x.to, ((b : Int), (i : Int)))] else [] | none => [])
def evBlock (b : Nat) (x : BlockD) : List (Int × Pl) := evPhis b x.phis ++ evTo b x.ins x.ins.length
def evBl (bs : List BlockD) : Nat → List (Int × Pl)
  | 0 => []
  | b + 1 => evBl bs b ++ (match bs[b]? with | some x => evBlock b x | none => [])
/-- The places that set registers of a code: for each one a list. -/
def codeSets (c : CodeD) : List (List Pl) := setsP c.regs.toNat (evBl c.blocks c.blocks.length)
theorem evPhis_succ {b i : Nat} {fs : List PhiD} {f : PhiD} (h : fs[i]? = some f) : evPhis b (fs.take (i + 1)) = evPhis b (fs.take i) ++ [(f.to, ((b : Int), (-1 : Int)))] := by
  rw [take_succ_of h, evPhis, List.map_append]; rfl
theorem evTo_yes {b i : Nat} {is : List InsD} {x : InsD} (h : is[i]? = some x) (hm : makesB x.op = true) : evTo b is (i + 1) = evTo b is i ++ [(x.to, ((b : Int), (i : Int)))] := by
  rw [evTo, h]; simp [hm]
theorem evTo_no {b i : Nat} {is : List InsD} {x : InsD} (h : is[i]? = some x) (hm : makesB x.op = false) : evTo b is (i + 1) = evTo b is i := by
  rw [evTo, h]; simp [hm]
theorem evBl_succ {b : Nat} {bs : List BlockD} {x : BlockD} (h : bs[b]? = some x) : evBl bs (b + 1) = evBl bs b ++ evBlock b x := by rw [evBl, h]
theorem evTo_len (b : Nat) (is : List InsD) : ∀ i, (evTo b is i).length ≤ i
  | 0 => Nat.le_refl _
  | i + 1 => by
    have := evTo_len b is i
    rw [evTo, List.length_append]
    cases is[i]? with
    | none => simp; omega
    | some x => simp only; split <;> simp <;> omega
def evN (x : BlockD) : Nat := x.phis.length + x.ins.length
theorem evN_le (x : BlockD) : evN x ≤ szBlockD x := by
  have := szS_len szInsD x.ins
  have := szS_len szPhiD x.phis
  unfold evN szBlockD
  omega
theorem evBl_len (bs : List BlockD) : ∀ b, (evBl bs b).length ≤ sumOf evN (bs.take b)
  | 0 => by simp [evBl]
  | b + 1 => by
    have h1 := evBl_len bs b
    cases hx : bs[b]? with
    | none =>
      have h2 : bs.take (b + 1) = bs.take b := by rw [List.take_add_one, hx]; simp
      rw [evBl, hx, h2]; simpa using h1
    | some x =>
      have h2 := evTo_len b x.ins x.ins.length
      rw [evBl_succ hx, take_succ_of hx, sumOf_snoc, List.length_append, evBlock, List.length_append]
      simp only [evPhis, List.length_map]
      unfold evN
      unfold evN at h1
      omega
theorem ev_small {bs : List BlockD} {b : Nat} {x : BlockD} (h : szS szBlockD bs ≤ 1048576) (hx : bs[b]? = some x) {k i : Nat} (hi : i ≤ x.ins.length) : (evBl bs b ++ (evPhis b (x.phis.take k) ++ evTo b x.ins i)).length ≤ 1048576 := by
  have h1 := evBl_len bs b
  have h2 := evTo_len b x.ins i
  have h3 := sumOf_le evN_le bs
  have h4 := sumOf_pre evN bs (b + 1)
  rw [take_succ_of hx, sumOf_snoc] at h4
  rw [List.length_append, List.length_append]
  have h5 : (evPhis b (x.phis.take k)).length ≤ x.phis.length := by simp only [evPhis, List.length_map, List.length_take]; omega
  unfold szS at h
  unfold evN at h4 h1 h3
  omega
theorem evBl_small {bs : List BlockD} (h : szS szBlockD bs ≤ 1048576) : (evBl bs bs.length).length ≤ 1048576 := by
  have h1 := evBl_len bs bs.length
  have h3 := sumOf_le evN_le bs
  rw [List.take_length] at h1
  unfold szS at h
  omega
/-- The registers that are set are ones of the code. -/
def SetsOk (n : Nat) (bs : List BlockD) : Prop := ∀ x ∈ bs, (∀ f ∈ x.phis, 0 ≤ f.to ∧ f.to < (n : Int)) ∧ ∀ i ∈ x.ins, (makesB i.op = true → 0 ≤ i.to ∧ i.to < (n : Int))
theorem setsOk_of {us : List CodeD} {k : Nat} {c : CodeD} {n : Nat} (h : codeB us k c = true) (hn : c.regs = (n : Int)) : SetsOk n c.blocks := by
  intro x hx
  obtain ⟨b, hb⟩ := List.getElem?_of_mem hx
  have h1 := code_block h hb
  rw [blockB, Bool.and_eq_true, Bool.and_eq_true, Bool.and_eq_true] at h1
  obtain ⟨⟨_, hi⟩, hp⟩ := h1
  refine ⟨fun f hf => ?_, fun i hin hm => ?_⟩
  · have h2 := List.all_eq_true.1 hp f hf
    rw [phiB, Bool.and_eq_true, Bool.and_eq_true, Bool.and_eq_true] at h2
    have := inR_iff.1 h2.1.1.2
    rw [← hn]; exact this
  · have h2 : x.ins.any (fun i => !insB us k c.regs i) = false := by simpa using hi
    have h3 := any_false h2 i hin
    have h4 : insB us k c.regs i = true := by simpa using h3
    rw [insB, Bool.and_eq_true, Bool.and_eq_true, Bool.and_eq_true, toB, if_pos hm] at h4
    have := inR_iff.1 h4.1.2
    rw [← hn]; exact this

end Go.Proofs.Ytkhnhdgbbjppeaa
