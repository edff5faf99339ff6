
/-
  Folding (plain): what is folded has the same value; an expression without names is folded to its value.
-/
import Derived.Test.YtccfbnhlhjlmgaaDoorPe3
namespace Go.Proofs.YtccfbnhlhjlmgaaDoor
open Go.RowKit
set_option linter.unusedVariables false

theorem arith_add0 {a : Int} (h : 0 ≤ a ∧ a ≤ 255) : arithD 3 a 0 = some a ∧ arithD 3 0 a = some a ∧ arithD 4 a 0 = some a := by
  refine ⟨?_, ?_, ?_⟩
  · show some ((a + 0) % 256) = _; rw [Int.add_zero, Int.emod_eq_of_lt (by omega) (by omega)]
  · show some ((0 + a) % 256) = _; rw [Int.zero_add, Int.emod_eq_of_lt (by omega) (by omega)]
  · show some ((a - 0) % 256) = _; rw [Int.sub_zero, Int.emod_eq_of_lt (by omega) (by omega)]
theorem arith_mul1 {a : Int} (h : 0 ≤ a ∧ a ≤ 255) : arithD 5 a 1 = some a ∧ arithD 5 1 a = some a ∧ arithD 6 a 1 = some a := by
  refine ⟨?_, ?_, ?_⟩
  · show some (a * 1 % 256) = _; rw [Int.mul_one, Int.emod_eq_of_lt (by omega) (by omega)]
  · show some (1 * a % 256) = _; rw [Int.one_mul, Int.emod_eq_of_lt (by omega) (by omega)]
  · show some (a / 1) = _; rw [Int.ediv_one]
theorem arith_mul0 (a : Int) : arithD 5 a 0 = some 0 ∧ arithD 5 0 a = some 0 := by
  refine ⟨?_, ?_⟩
  · show some (a * 0 % 256) = _; rw [Int.mul_zero]; rfl
  · show some (0 * a % 256) = _; rw [Int.zero_mul]; rfl
theorem lvl_cases {op : Int} (h : 0 < lvl op) (h10 : op ≠ 10) : op = 3 ∨ op = 4 ∨ op = 5 ∨ op = 6 ∨ op = 7 ∨ op = 8 ∨ op = 9 := by
  unfold lvl at h
  split at h
  · omega
  · split at h
    · omega
    · split at h
      · omega
      · omega
theorem bind2 {a b : Int} {f : Int → Int → Option Int} : ((some a).bind fun u => (some b).bind fun v => f u v) = f a b := rfl
theorem evalV_isNum {G : ByteArray → Option Int} {d : Nat} {e : ExprD} {n : Int} (h : isNumB e n = true) : evalV G (d + 1) e = some n := by
  obtain ⟨h1, h2⟩ := isNumB_of h
  rw [evalV, if_pos h1, h2]
theorem evalV_op1 {G : ByteArray → Option Int} {d : Nat} {e : ExprD} (h : e.op = 1) : evalV G (d + 1) e = some e.n := by
  rw [evalV, if_pos h]
theorem safeD_parts {x : ExprD} (h : safeD x = true) : sizeD nameD 6 x ≠ none ∧ anyE unsafeP 6 x = false := by
  unfold safeD at h
  simp only [Bool.and_eq_true, Bool.not_eq_true'] at h
  refine ⟨fun e => ?_, h.2⟩
  rw [e] at h
  exact absurd h.1 (by decide)
theorem arith_not (a b : Int) : arithD 11 a b = some (truthI (a == 0)) := rfl
theorem truth3 (z : Int) : truthI (truthI (truthI (z == 0) == 0) == 0) = truthI (z == 0) := by
  cases (z == 0) <;> rfl
/-- A part that is folded has the same value. -/
theorem part_eval {ns : List ByteArray} {G : ByteArray → Option Int} (hG : ∀ s v, G s = some v → 0 ≤ v ∧ v ≤ 255) {m d : Nat} {y : ExprD} (hs : sizeD nameD (m + 1) y ≠ none) (hd : m ≤ d) (hm6 : m ≤ 6) (hb : anyE (badP ns) (d + 1) y = false) :
    evalV G (d + 1) (partF y) = evalV G (d + 1) y := by
  obtain ⟨m', hm, hh, hk⟩ := size_parts hs
  cases hm
  obtain ⟨hn, hnk⟩ := any_partsE hb
  have hfit : ∀ k ∈ y.kids, evalV G (d + 1) k = evalV G d k := fun k hk' => (evalV_fit (hk k hk') (by omega) (by omega) (hnk k hk')).symm
  have hrng : ∀ k ∈ y.kids, ∀ v, evalV G d k = some v → 0 ≤ v ∧ v ≤ 255 := fun k hk' v hv => evalV_range hG d m k v (hk k hk') (hnk k hk') hv
  have hdk : y.kids ≠ [] → ∃ d', d = d' + 1 := fun hne => by
    obtain ⟨k, hk'⟩ := List.exists_mem_of_ne_nil _ hne
    have h1 := hk k hk'
    cases m with
    | zero => exact absurd rfl h1
    | succ m => exact ⟨d - 1, by omega⟩
  rcases head_casesV hh (show badP ns (.mk y.op y.n y.name y.kids) = false from hn) with ⟨h1, -, -⟩ | ⟨h1, -⟩ | ⟨⟨h1, hn2, h13, h12⟩, h10, hl, h2⟩ | ⟨h1, h2⟩ | ⟨h1, h2⟩
  · have hk0 : y.kids.length = 0 := by rw [h1] at hh; exact (head_num hh).2.2
    rw [partF, if_pos (.inl hk0)]
  · have hk0 : y.kids.length = 0 := by
      have h3 : (nameD y.name && (y.n == 0 && y.kids.length == 0)) = true := by
        have := hh
        rw [h1, headB, if_neg (by decide), if_pos rfl] at this
        exact this
      simp only [Bool.and_eq_true, beq_iff_eq] at h3
      exact h3.2.2
    rw [partF, if_pos (.inl hk0)]
  · -- an op between two
    obtain ⟨d', rfl⟩ := hdk (by intro e; rw [e] at h2; simp at h2)
    have eA : kA y = y.kids.getD 0 default := rfl
    have eB : kB y = y.kids.getD 1 default := by unfold kB; rw [h2]
    have mA : kA y ∈ y.kids := (kid_get (show 0 < y.kids.length by omega)).2
    have mB : kB y ∈ y.kids := by rw [eB]; exact (kid_get (show 1 < y.kids.length by omega)).2
    have hv : evalV G (d' + 1 + 1) y = (evalV G (d' + 1) (kA y)).bind fun a => (evalV G (d' + 1) (kB y)).bind fun b => arithD y.op a b := by
      rw [evalV, if_neg h1, if_neg hn2, if_neg h10, if_pos (show 1 < y.kids.length by omega), eB]
      rfl
    rw [hv]
    have hF : partF y = (match foldNum y with | some n => numE n | none => partG y) := by
      rw [partF, if_neg (by omega)]
      rfl
    cases hf : foldNum y with
    | some n =>
      rw [hf] at hF
      have hF : partF y = numE n := hF
      rw [hF, evalV_num]
      unfold foldNum at hf
      split at hf
      · rename_i h3
        rw [evalV_op1 h3.1, evalV_op1 h3.2]
        exact hf.symm
      · cases hf
    | none =>
      rw [hf] at hF
      have hF : partF y = partG y := hF
      rw [hF, ← hv]
      have hstay : evalV G (d' + 1 + 1) y = evalV G (d' + 1 + 1) y := rfl
      unfold partG
      rcases lvl_cases hl h10 with h3 | h3 | h3 | h3 | h3 | h3 | h3
      · rw [if_neg (by omega), if_neg (by omega), if_pos h3]
        split
        · rename_i h4
          rw [hfit _ mA, hv, evalV_isNum h4, h3]
          cases ha : evalV G (d' + 1) (kA y) with
          | none => rfl
          | some a => exact ((arith_add0 (hrng _ mA a ha)).1).symm
        · split
          · rename_i h4
            rw [hfit _ mB, hv, evalV_isNum h4, h3]
            cases ha : evalV G (d' + 1) (kB y) with
            | none => rfl
            | some a => exact ((arith_add0 (hrng _ mB a ha)).2.1).symm
          · rfl
      · rw [if_neg (by omega), if_neg (by omega), if_neg (by omega), if_pos h3]
        split
        · rename_i h4
          rw [hfit _ mA, hv, evalV_isNum h4, h3]
          cases ha : evalV G (d' + 1) (kA y) with
          | none => rfl
          | some a => exact ((arith_add0 (hrng _ mA a ha)).2.2).symm
        · rfl
      · rw [if_neg (by omega), if_neg (by omega), if_neg (by omega), if_neg (by omega), if_pos h3]
        split
        · rename_i h4
          rw [hfit _ mA, hv, evalV_isNum h4, h3]
          cases ha : evalV G (d' + 1) (kA y) with
          | none => rfl
          | some a => exact ((arith_mul1 (hrng _ mA a ha)).1).symm
        · split
          · rename_i h4
            rw [hfit _ mB, hv, evalV_isNum h4, h3]
            cases ha : evalV G (d' + 1) (kB y) with
            | none => rfl
            | some a => exact ((arith_mul1 (hrng _ mB a ha)).2.1).symm
          · split
            · rename_i h4
              rw [evalV_num, hv, h3]
              rw [Bool.or_eq_true, Bool.and_eq_true, Bool.and_eq_true] at h4
              rcases h4 with ⟨h5, h6⟩ | ⟨h5, h6⟩
              · obtain ⟨s1, s2⟩ := safeD_parts h6
                obtain ⟨v, hv2⟩ := safe_eval (G := G) (ns := ns) (d := 6) s1 (Nat.le_refl _) (by
                  rw [anyE_fit (hk _ mA) (by omega : m ≤ 6) (by omega : m ≤ d' + 1)]; exact hnk _ mA) s2
                have h7 : evalV G (d' + 1) (kA y) = some v := by
                  rw [← hv2]
                  exact evalV_fit (hk _ mA) (by omega) (by omega) (hnk _ mA)
                rw [h7, evalV_isNum h5]
                exact ((arith_mul0 v).1).symm
              · obtain ⟨s1, s2⟩ := safeD_parts h6
                obtain ⟨v, hv2⟩ := safe_eval (G := G) (ns := ns) (d := 6) s1 (Nat.le_refl _) (by
                  rw [anyE_fit (hk _ mB) (by omega : m ≤ 6) (by omega : m ≤ d' + 1)]; exact hnk _ mB) s2
                have h7 : evalV G (d' + 1) (kB y) = some v := by
                  rw [← hv2]
                  exact evalV_fit (hk _ mB) (by omega) (by omega) (hnk _ mB)
                rw [h7, evalV_isNum h5]
                exact ((arith_mul0 v).2).symm
            · rfl
      · rw [if_neg (by omega), if_neg (by omega), if_neg (by omega), if_neg (by omega), if_neg (by omega), if_pos h3]
        split
        · rename_i h4
          rw [hfit _ mA, hv, evalV_isNum h4, h3]
          cases ha : evalV G (d' + 1) (kA y) with
          | none => rfl
          | some a => exact ((arith_mul1 (hrng _ mA a ha)).2.2).symm
        · rfl
      · rw [if_neg (by omega), if_neg (by omega), if_neg (by omega), if_neg (by omega), if_neg (by omega), if_neg (by omega)]
      · rw [if_neg (by omega), if_neg (by omega), if_neg (by omega), if_neg (by omega), if_neg (by omega), if_neg (by omega)]
      · rw [if_neg (by omega), if_neg (by omega), if_neg (by omega), if_neg (by omega), if_neg (by omega), if_neg (by omega)]
  · -- and
    obtain ⟨d', rfl⟩ := hdk (by intro e; rw [e] at h2; simp at h2)
    have eB : kB y = y.kids.getD 1 default := by unfold kB; rw [h2]
    have hv : evalV G (d' + 1 + 1) y = (evalV G (d' + 1) (kA y)).bind (fun a => if a = 0 then some 0 else (evalV G (d' + 1) (kB y)).bind (fun b => some (truthI (!(b == 0))))) := by
      rw [evalV, if_neg (show ¬ y.op = 1 by omega), if_neg (show ¬ y.op = 2 by omega), if_pos h1, eB]
      rfl
    have hF : partF y = (match foldNum y with | some n => numE n | none => partG y) := by
      rw [partF, if_neg (by omega)]
      rfl
    cases hf : foldNum y with
    | some n =>
      rw [hf] at hF
      have hF : partF y = numE n := hF
      rw [hF, evalV_num, hv]
      unfold foldNum at hf
      split at hf
      · rename_i h3
        rw [evalV_op1 h3.1, evalV_op1 h3.2, ← hf, h1]
        show some (truthI (!((kA y).n == 0) && !((kB y).n == 0))) = (if (kA y).n = 0 then some 0 else some (truthI (!((kB y).n == 0))))
        by_cases h4 : (kA y).n = 0
        · rw [if_pos h4, h4]; rfl
        · rw [if_neg h4, show ((kA y).n == 0) = false by simpa using h4]; rfl
      · cases hf
    | none =>
      rw [hf] at hF
      have hF : partF y = partG y := hF
      rw [hF]
      unfold partG
      rw [if_neg (by omega), if_pos h1]
      split
      · rename_i h4
        rw [evalV_num, hv, evalV_isNum h4]
        rfl
      · rfl
  · -- not
    obtain ⟨d', rfl⟩ := hdk (by intro e; rw [e] at h2; simp at h2)
    have eB : kB y = kA y := by unfold kB kA; rw [h2]
    have mA : kA y ∈ y.kids := (kid_get (show 0 < y.kids.length by omega)).2
    have hnot : ∀ (e : ExprD) (D : Nat), e.op = 11 → e.kids.length = 1 → evalV G (D + 1) e = (evalV G D (kA e)).bind (fun a => some (truthI (a == 0))) := fun e D h3 h4 => by
      rw [evalV, if_neg (show ¬ e.op = 1 by omega), if_neg (show ¬ e.op = 2 by omega), if_neg (show ¬ e.op = 10 by omega), if_neg (by omega), h3]
      rfl
    have hF : partF y = (match foldNum y with | some n => numE n | none => partG y) := by
      rw [partF, if_neg (by omega)]
      rfl
    cases hf : foldNum y with
    | some n =>
      rw [hf] at hF
      have hF : partF y = numE n := hF
      rw [hF, evalV_num, hnot y _ h1 h2]
      unfold foldNum at hf
      split at hf
      · rename_i h3
        rw [evalV_op1 h3.1, ← hf, h1, arith_not]
        rfl
      · cases hf
    | none =>
      rw [hf] at hF
      have hF : partF y = partG y := hF
      rw [hF]
      unfold partG
      rw [if_pos h1]
      split
      · rename_i h4
        have hvA := hk _ mA
        cases m with
        | zero => exact absurd rfl hvA
        | succ m =>
          obtain ⟨m1, hm1, hhA, hkA⟩ := size_parts hvA
          cases hm1
          rw [h4.1] at hhA
          have lA := head_not hhA
          have mJ : (kA y).kids.getD 0 default ∈ (kA y).kids := (kid_get (show 0 < (kA y).kids.length by omega)).2
          have hvJ := hkA _ mJ
          obtain ⟨bA, bK⟩ := any_partsE (hnk _ mA)
          have bJ := bK _ mJ
          cases m with
          | zero => exact absurd rfl hvJ
          | succ m =>
            obtain ⟨m2, hm2, hhJ, hkJ⟩ := size_parts hvJ
            cases hm2
            rw [h4.2] at hhJ
            have lJ := head_not hhJ
            obtain ⟨d2, rfl⟩ : ∃ d2, d' = d2 + 1 := ⟨d' - 1, by omega⟩
            rw [hnot y _ h1 h2, hnot (kA y) _ h4.1 lA]
            show evalV G (d2 + 1 + 1 + 1) (kA (kA y)) = ((evalV G (d2 + 1) (kA (kA y))).bind _).bind _
            have hfit2 : evalV G (d2 + 1 + 1 + 1) (kA (kA y)) = evalV G (d2 + 1) (kA (kA y)) := (evalV_fit hvJ (by omega) (by omega) bJ).symm
            rw [hfit2, hnot (kA (kA y)) _ h4.2 lJ]
            cases evalV G d2 (kA (kA (kA y))) with
            | none => rfl
            | some z =>
              show some (truthI (z == 0)) = some (truthI (truthI (truthI (z == 0) == 0) == 0))
              rw [truth3]
      · rfl
theorem fold_eval {ns : List ByteArray} {G : ByteArray → Option Int} (hG : ∀ s v, G s = some v → 0 ≤ v ∧ v ≤ 255) : ∀ (m d : Nat) (x : ExprD), m ≤ 7 → sizeD nameD m x ≠ none → m ≤ d → anyE (badP ns) d x = false → evalV G d (foldD d x) = evalV G d x
  | 0, _, _, _, h, _, _ => absurd rfl h
  | m + 1, 0, _, _, _, h, _ => absurd h (by omega)
  | m + 1, d + 1, x, hm7, hs, hd, hb => by
    have hv := mapped_valid (d := d) hs
    have hby : anyE (badP ns) (d + 1) (.mk x.op x.n x.name (x.kids.map (foldD d))) = false := by
      obtain ⟨h1, h2⟩ := any_partsE hb
      show (badP ns (.mk x.op x.n x.name (x.kids.map (foldD d))) || (x.kids.map (foldD d)).any (anyE (badP ns) d)) = false
      rw [show badP ns (.mk x.op x.n x.name (x.kids.map (foldD d))) = false from h1, Bool.false_or, List.any_eq_false]
      intro k hk'
      obtain ⟨k', hk'', rfl⟩ := List.mem_map.1 hk'
      rw [fold_bad (kids_valid hs hk'') (by omega) (h2 k' hk'')]; simp
    rw [foldD, part_eval hG hv (by omega) (by omega) hby]
    obtain ⟨m', hm, hh, hk⟩ := size_parts hs
    cases hm
    obtain ⟨hn, hnk⟩ := any_partsE hb
    have hkid : ∀ i, i < x.kids.length → evalV G d ((x.kids.map (foldD d)).getD i default) = evalV G d (x.kids.getD i default) := fun i hi => by
      rw [getD_map hi]
      exact fold_eval hG m d _ (by omega) (hk _ (kid_get hi).2) (by omega) (hnk _ (kid_get hi).2)
    rw [evalV_mk, evalV, List.length_map]
    rcases head_casesV hh (show badP ns (.mk x.op x.n x.name x.kids) = false from hn) with ⟨h1, h2, h3⟩ | ⟨h1, h2⟩ | ⟨⟨h1, hn2, -, -⟩, h10, hl, h2⟩ | ⟨h1, h2⟩ | ⟨h1, h2⟩
    · rw [if_pos h1, if_pos h1]
    · rw [if_neg (show ¬ x.op = 1 by omega), if_pos h1, if_neg (show ¬ x.op = 1 by omega), if_pos h1]
    · rw [if_neg h1, if_neg hn2, if_neg h10, if_neg h1, if_neg hn2, if_neg h10, hkid 0 (by omega), hkid 1 (by omega)]
    · rw [if_neg (show ¬ x.op = 1 by omega), if_neg (show ¬ x.op = 2 by omega), if_pos h1, if_neg (show ¬ x.op = 1 by omega), if_neg (show ¬ x.op = 2 by omega), if_pos h1, hkid 0 (by omega), hkid 1 (by omega)]
    · rw [if_neg (show ¬ x.op = 1 by omega), if_neg (show ¬ x.op = 2 by omega), if_neg (show ¬ x.op = 10 by omega), if_neg (show ¬ x.op = 1 by omega), if_neg (show ¬ x.op = 2 by omega), if_neg (show ¬ x.op = 10 by omega), hkid 0 (by omega), if_neg (by omega), if_neg (by omega)]
theorem partG_and {y : ExprD} (h1 : y.op = 10) (hA : isNumB (kA y) 0 = true) : partG y = numE 0 := by
  unfold partG
  rw [if_neg (by omega), if_pos h1, if_pos hA]
/-- An expression without names is folded to its value. -/
theorem fold_num {G : ByteArray → Option Int} : ∀ (m d : Nat) (x : ExprD) (n : Int), sizeD nameD m x ≠ none → m ≤ d → anyE (badP []) d x = false → evalV G d x = some n → foldD d x = numE n
  | 0, _, _, _, h, _, _, _ => absurd rfl h
  | m + 1, 0, _, _, _, h, _, _ => absurd h (by omega)
  | m + 1, d + 1, x, n, hs, hd, hb, he => by
    obtain ⟨m', hm, hh, hk⟩ := size_parts hs
    cases hm
    obtain ⟨hn, hnk⟩ := any_partsE hb
    have hkid : ∀ i, i < x.kids.length → ∀ v, evalV G d (x.kids.getD i default) = some v → (x.kids.map (foldD d)).getD i default = numE v := fun i hi v hv => by
      rw [getD_map hi]
      exact fold_num m d _ v (hk _ (kid_get hi).2) (by omega) (hnk _ (kid_get hi).2) hv
    rw [evalV] at he
    rw [foldD]
    have hlen : (ExprD.mk x.op x.n x.name (x.kids.map (foldD d))).kids.length = x.kids.length := List.length_map _
    rcases head_casesV hh (show badP [] (.mk x.op x.n x.name x.kids) = false from hn) with ⟨h1, h2, h3⟩ | ⟨h1, h2⟩ | ⟨⟨h1, hn2, h13, h12⟩, h10, hl, h2⟩ | ⟨h1, h2⟩ | ⟨h1, h2⟩
    · rw [if_pos h1] at he
      cases he
      rw [h1] at hh
      obtain ⟨-, g2, g3⟩ := head_num hh
      have hk0 : x.kids = [] := List.length_eq_zero_iff.1 g3
      rw [hk0, List.map_nil, partF, if_pos (.inl rfl), h1, g2]
      rfl
    · have h5 : hasE [] x.name = false := rfl
      rw [h5] at h2
      cases h2
    · rw [if_neg h1, if_neg hn2, if_neg h10, if_pos (show 1 < x.kids.length by omega)] at he
      obtain ⟨a, ha, he⟩ := Option.bind_eq_some_iff.1 he
      obtain ⟨b, hb', he⟩ := Option.bind_eq_some_iff.1 he
      have fA := hkid 0 (by omega) a ha
      have fB := hkid 1 (by omega) b hb'
      have eA : kA (.mk x.op x.n x.name (x.kids.map (foldD d))) = numE a := fA
      have eB : kB (.mk x.op x.n x.name (x.kids.map (foldD d))) = numE b := by
        unfold kB
        rw [hlen, h2]
        exact fB
      have hf : foldNum (.mk x.op x.n x.name (x.kids.map (foldD d))) = some n := by
        unfold foldNum
        rw [eA, eB, if_pos ⟨rfl, rfl⟩]
        exact he
      rw [partF, if_neg (by rw [hlen]; show ¬ (x.kids.length = 0 ∨ x.op = 13 ∨ x.op = 12); omega), hf]
    · rw [if_neg (show ¬ x.op = 1 by omega), if_neg (show ¬ x.op = 2 by omega), if_pos h1] at he
      obtain ⟨a, ha, he⟩ := Option.bind_eq_some_iff.1 he
      have fA := hkid 0 (by omega) a ha
      have eA : kA (.mk x.op x.n x.name (x.kids.map (foldD d))) = numE a := fA
      have h0 : ¬ ((ExprD.mk x.op x.n x.name (x.kids.map (foldD d))).kids.length = 0 ∨ (ExprD.mk x.op x.n x.name (x.kids.map (foldD d))).op = 13 ∨ (ExprD.mk x.op x.n x.name (x.kids.map (foldD d))).op = 12) := by
        rw [hlen]; show ¬ (x.kids.length = 0 ∨ x.op = 13 ∨ x.op = 12); omega
      rw [partF, if_neg h0]
      by_cases ha0 : a = 0
      · rw [if_pos ha0] at he
        cases he
        subst ha0
        cases hf : foldNum (.mk x.op x.n x.name (x.kids.map (foldD d))) with
        | some n =>
          unfold foldNum at hf
          split at hf
          · rw [eA] at hf
            have hf : arithD x.op 0 _ = some n := hf
            rw [h1] at hf
            have hf : some (truthI (!((0 : Int) == 0) && _)) = some n := hf
            cases hf
            rfl
          · cases hf
        | none =>
          exact partG_and h1 (by rw [eA]; rfl)
      · rw [if_neg ha0] at he
        obtain ⟨b, hb', he⟩ := Option.bind_eq_some_iff.1 he
        have fB := hkid 1 (by omega) b hb'
        have eB : kB (.mk x.op x.n x.name (x.kids.map (foldD d))) = numE b := by
          unfold kB
          rw [hlen, h2]
          exact fB
        have hf : foldNum (.mk x.op x.n x.name (x.kids.map (foldD d))) = some n := by
          unfold foldNum
          rw [eA, eB, if_pos ⟨rfl, rfl⟩]
          show arithD x.op a b = some n
          rw [h1, ← he]
          show some (truthI (!(a == 0) && !(b == 0))) = _
          rw [show (a == 0) = false by simpa using ha0]
          rfl
        rw [hf]
    · rw [if_neg (show ¬ x.op = 1 by omega), if_neg (show ¬ x.op = 2 by omega), if_neg (show ¬ x.op = 10 by omega)] at he
      obtain ⟨a, ha, he⟩ := Option.bind_eq_some_iff.1 he
      rw [if_neg (by omega), h1] at he
      have he : some (truthI (a == 0)) = some n := he
      have fA := hkid 0 (by omega) a ha
      have eA : kA (.mk x.op x.n x.name (x.kids.map (foldD d))) = numE a := fA
      have eB : kB (.mk x.op x.n x.name (x.kids.map (foldD d))) = numE a := by
        unfold kB
        rw [hlen, h2]
        exact fA
      have hf : foldNum (.mk x.op x.n x.name (x.kids.map (foldD d))) = some n := by
        unfold foldNum
        rw [eA, eB, if_pos ⟨rfl, rfl⟩]
        show arithD x.op a a = some n
        rw [h1, ← he]
        rfl
      rw [partF, if_neg (by rw [hlen]; show ¬ (x.kids.length = 0 ∨ x.op = 13 ∨ x.op = 12); omega), hf]

end Go.Proofs.YtccfbnhlhjlmgaaDoor
