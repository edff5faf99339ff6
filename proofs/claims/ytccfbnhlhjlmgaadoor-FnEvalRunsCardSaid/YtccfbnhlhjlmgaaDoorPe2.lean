
/-
  Numbers put for variables (plain).
-/
import Derived.Test.YtccfbnhlhjlmgaaDoorPe1
namespace Go.Proofs.YtccfbnhlhjlmgaaDoor
open Go.RowKit
set_option linter.unusedVariables false

theorem eq_of_toListE {s t : ByteArray} (h : s.toList = t.toList) : s = t := by
  rw [ByteArray.toList_eq, ByteArray.toList_eq] at h
  cases s with
  | mk a => cases t with
    | mk b => rw [show a = b from Array.toList_inj.1 h]
/-- b in place of the variable s. -/
def putD (s : ByteArray) (b : ExprD) : Nat → ExprD → ExprD
  | 0, e => e
  | d + 1, e => if e.op = 2 ∧ e.name = s then b else .mk e.op e.n e.name (e.kids.map (putD s b d))
theorem foldSz_map {f : ExprD → Option (Nat × Nat)} {g : ExprD → ExprD} : ∀ (ks : List ExprD) (p d : Nat) (q : Nat × Nat), (∀ k ∈ ks, ∀ q, f k = some q → f (g k) = some q) → foldSz f ks p d = some q → foldSz f (ks.map g) p d = some q
  | [], _, _, _, _, h => h
  | k :: ks, p, d, q, hg, h => by
    rw [foldSz] at h
    cases hk : f k with
    | none => rw [hk] at h; cases h
    | some r =>
      rw [hk] at h
      rw [List.map_cons, foldSz, hg k List.mem_cons_self r hk]
      exact foldSz_map ks _ _ q (fun k' h' => hg k' (List.mem_cons_of_mem _ h')) h
theorem numE_size {v : Int} (hv : inE 0 v 255 = true) (m : Nat) : sizeD nameD (m + 1) (numE v) = some (1, 1) := by
  have hh : headB nameD 1 v ⟨#[]⟩ 0 = true := by rw [headB, if_pos rfl, hv, noneE0]; rfl
  show (if headB nameD 1 v ⟨#[]⟩ 0 = true then foldSz (sizeD nameD m) [] 1 1 else none) = _
  rw [if_pos hh]
  rfl
theorem put_size {s : ByteArray} {v : Int} (hv : inE 0 v 255 = true) : ∀ (m d : Nat) (x : ExprD) (q : Nat × Nat), sizeD nameD m x = some q → sizeD nameD m (putD s (numE v) d x) = some q
  | 0, _, _, _, h => by cases h
  | m + 1, 0, _, _, h => h
  | m + 1, d + 1, x, q, h => by
    rw [putD]
    have h0 := h
    rw [sizeD] at h
    split at h
    · rename_i hh
      split
      · rename_i hs
        have hk : x.kids = [] := by
          have h2 : (nameD x.name && (x.n == 0 && x.kids.length == 0)) = true := by
            have := hh
            rw [hs.1, headB, if_neg (by decide), if_pos rfl] at this
            exact this
          simp only [Bool.and_eq_true, beq_iff_eq] at h2
          exact List.length_eq_zero_iff.1 h2.2.2
        rw [hk] at h
        rw [numE_size hv m, ← h]
        rfl
      · show (if headB nameD x.op x.n x.name (x.kids.map (putD s (numE v) d)).length = true then foldSz (sizeD nameD m) (x.kids.map (putD s (numE v) d)) 1 1 else none) = _
        rw [List.length_map, if_pos hh]
        exact foldSz_map _ _ _ _ (fun k _ q hq => put_size hv m d k q hq) h
    · cases h
theorem put_valid {s : ByteArray} {v : Int} (hv : inE 0 v 255 = true) {m d : Nat} {x : ExprD} (h : sizeD nameD m x ≠ none) : sizeD nameD m (putD s (numE v) d x) ≠ none := by
  cases hq : sizeD nameD m x with
  | none => exact absurd hq h
  | some q => rw [put_size hv m d x q hq]; simp
theorem put_bad {s : ByteArray} {v : Int} {ns : List ByteArray} : ∀ (d : Nat) (x : ExprD), anyE (badP (s :: ns)) d x = false → anyE (badP ns) d (putD s (numE v) d x) = false
  | 0, _, _ => rfl
  | d + 1, x, h => by
    obtain ⟨h1, h2⟩ := any_partsE h
    rw [putD]
    split
    · exact anyE_num _ _
    · rename_i hs
      have hb : ((x.op == 12) || ((x.op == 13) || ((x.op == 2) && !hasE (s :: ns) x.name))) = false := h1
      rw [Bool.or_eq_false_iff, Bool.or_eq_false_iff] at hb
      have hp : badP ns (.mk x.op x.n x.name (x.kids.map (putD s (numE v) d))) = false := by
        show ((x.op == 12) || ((x.op == 13) || ((x.op == 2) && !hasE ns x.name))) = false
        rw [hb.1, hb.2.1]
        cases h2 : (x.op == 2) with
        | false => rfl
        | true =>
          have h3 := hb.2.2
          rw [h2] at h3
          have h4 : hasE (s :: ns) x.name = true := by simpa using h3
          have h5 : ((x.name.toList == s.toList) || hasE ns x.name) = true := h4
          have h6 : (x.name.toList == s.toList) = false := by
            cases h7 : (x.name.toList == s.toList) with
            | false => rfl
            | true => exact absurd ⟨by simpa using h2, eq_of_toListE (by simpa using h7)⟩ hs
          rw [h6] at h5
          have h8 : hasE ns x.name = true := by simpa using h5
          rw [h8]; rfl
      show (badP ns (.mk x.op x.n x.name (x.kids.map (putD s (numE v) d))) || (x.kids.map (putD s (numE v) d)).any (anyE (badP ns) d)) = false
      rw [hp, Bool.false_or, List.any_eq_false]
      intro k hk
      obtain ⟨k', hk', rfl⟩ := List.mem_map.1 hk
      rw [put_bad d k' (h2 k' hk')]
      simp
theorem getD_map {f : ExprD → ExprD} {ks : List ExprD} {i : Nat} (h : i < ks.length) : (ks.map f).getD i default = f (ks.getD i default) := by
  rw [List.getD_eq_getElem?_getD, List.getElem?_map, (kid_get h).1]; rfl
theorem put_eval {s : ByteArray} {v : Int} {ns : List ByteArray} {G : ByteArray → Option Int} : ∀ (m d : Nat) (x : ExprD), sizeD nameD m x ≠ none → anyE (badP ns) d x = false →
    evalV G d (putD s (numE v) d x) = evalV (fun t => if t = s then some v else G t) d x
  | 0, _, _, h, _ => absurd rfl h
  | m + 1, 0, _, _, _ => rfl
  | m + 1, d + 1, x, hs, hb => by
    obtain ⟨m', hm, hh, hk⟩ := size_parts hs
    cases hm
    obtain ⟨hn, hnk⟩ := any_partsE hb
    rw [putD]
    by_cases hp : x.op = 2 ∧ x.name = s
    · rw [if_pos hp, evalV_num]
      rw [evalV, if_neg (by omega), if_pos hp.1, if_pos hp.2]
      rfl
    · rw [if_neg hp]
      have hkid : ∀ i, i < x.kids.length → evalV G d ((x.kids.map (putD s (numE v) d)).getD i default) = evalV (fun t => if t = s then some v else G t) d (x.kids.getD i default) := fun i hi => by
        rw [getD_map hi]
        exact put_eval m d _ (hk _ (kid_get hi).2) (hnk _ (kid_get hi).2)
      show evalV G (d + 1) (.mk x.op x.n x.name (x.kids.map (putD s (numE v) d))) = evalV _ (d + 1) x
      rw [evalV_mk, evalV, List.length_map]
      rcases head_casesV hh (show badP ns (.mk x.op x.n x.name x.kids) = false from hn) with ⟨h1, h2, h3⟩ | ⟨h1, h2⟩ | ⟨⟨h1, hn2, -, -⟩, h10, hl, h2⟩ | ⟨h1, h2⟩ | ⟨h1, h2⟩
      · rw [if_pos h1, if_pos h1]
      · rw [if_neg (show ¬ x.op = 1 by omega), if_pos h1, if_neg (show ¬ x.op = 1 by omega), if_pos h1, if_neg (fun e => hp ⟨h1, e⟩)]
      · rw [if_neg h1, if_neg hn2, if_neg h10, if_neg h1, if_neg hn2, if_neg h10, hkid 0 (by omega), hkid 1 (by omega)]
      · rw [if_neg (show ¬ x.op = 1 by omega), if_neg (show ¬ x.op = 2 by omega), if_pos h1, if_neg (show ¬ x.op = 1 by omega), if_neg (show ¬ x.op = 2 by omega), if_pos h1, hkid 0 (by omega), hkid 1 (by omega)]
      · rw [if_neg (show ¬ x.op = 1 by omega), if_neg (show ¬ x.op = 2 by omega), if_neg (show ¬ x.op = 10 by omega), if_neg (show ¬ x.op = 1 by omega), if_neg (show ¬ x.op = 2 by omega), if_neg (show ¬ x.op = 10 by omega), hkid 0 (by omega), if_neg (by omega), if_neg (by omega)]
/-- Nothing is named any more. -/
theorem put_varless {x : ExprD} {d : Nat} (h : anyE (badP []) d x = false) : anyE (fun e => e.op == 2) d x = false := by
  induction d generalizing x with
  | zero => rfl
  | succ d ih =>
    obtain ⟨h1, h2⟩ := any_partsE h
    show ((x.op == 2) || x.kids.any (anyE (fun e => e.op == 2) d)) = false
    have h3 : (x.op == 2) = false := by
      have hb : ((x.op == 12) || ((x.op == 13) || ((x.op == 2) && !hasE [] x.name))) = false := h1
      rw [Bool.or_eq_false_iff, Bool.or_eq_false_iff] at hb
      have h4 := hb.2.2
      have h5 : hasE [] x.name = false := rfl
      rw [h5] at h4
      simpa using h4
    rw [h3, Bool.false_or, List.any_eq_false]
    intro k hk
    rw [ih (h2 k hk)]
    simp

end Go.Proofs.YtccfbnhlhjlmgaaDoor
