
/-
  The walk of the law FnDoIns.
-/
import Derived.Test.YtccfbnhlhjlmgaaDoorDi2
import Derived.Test.YtccfbnhlhjlmgaaDoorEx9
namespace Go.Proofs.YtccfbnhlhjlmgaaDoor
open Go.RowKit

def noName : ByteArray → Bool := fun _ => false
def numX (a : Int) : ExprD := .mk 1 a ⟨#[]⟩ []
theorem noneE : (⟨#[]⟩ : ByteArray).toList.isEmpty = true := by
  rw [ByteArray.toList_eq]; rfl
theorem numX_size {a : Int} (h : inE 0 a 255 = true) : sizeD noName 5 (numX a) = some (1, 1) := by
  have hh : headB noName 1 a ⟨#[]⟩ 0 = true := by rw [headB, if_pos rfl, h, noneE]; rfl
  show (if headB noName 1 a ⟨#[]⟩ 0 = true then foldSz (sizeD noName 4) [] 1 1 else none) = _
  rw [if_pos hh]
  rfl
theorem two_eval {op a b : Int} (hop : 3 ≤ op ∧ op ≤ 9) (ha : inE 0 a 255 = true) (hb : inE 0 b 255 = true) : evalR noName 2 (.mk op 0 ⟨#[]⟩ [numX a, numX b]) = arithP (arithD op a b) := by
  have hl : 0 < lvl op := by
    have : op = 3 ∨ op = 4 ∨ op = 5 ∨ op = 6 ∨ op = 7 ∨ op = 8 ∨ op = 9 := by omega
    rcases this with rfl | rfl | rfl | rfl | rfl | rfl | rfl <;> decide
  have hh : headB noName op 0 ⟨#[]⟩ 2 = true := by rw [headB, if_neg (by omega), if_neg (by omega), if_neg (by omega), if_pos hl, noneE]; rfl
  have h1 : sizeD noName 6 (.mk op 0 ⟨#[]⟩ [numX a, numX b]) = some (3, 2) := by
    show (if headB noName op 0 ⟨#[]⟩ 2 = true then foldSz (sizeD noName 5) [numX a, numX b] 1 1 else none) = _
    rw [if_pos hh, foldSz, numX_size ha]
    show foldSz (sizeD noName 5) [numX b] 2 2 = _
    rw [foldSz, numX_size hb]
    rfl
  have h2 : anyOp atOp 2 (.mk op 0 ⟨#[]⟩ [numX a, numX b]) = false := by
    have h12 : atOp op = false := by simp [atOp]; omega
    show (atOp op || (_ || (_ || false))) = false
    rw [h12]
    rfl
  have h3 : evalD 2 (.mk op 0 ⟨#[]⟩ [numX a, numX b]) = arithD op a b := by
    show (if op = 1 then _ else if op = 10 then _ else (evalD 1 (numX a)).bind _) = _
    rw [if_neg (show ¬ op = 1 by omega), if_neg (show ¬ op = 10 by omega)]
    rfl
  rw [evalR, h1, h2, h3]
  cases arithD op a b <;> rfl
theorem not_eval {a : Int} (ha : inE 0 a 255 = true) : evalR noName 2 (.mk 11 0 ⟨#[]⟩ [numX a]) = (truthI (a == 0), 0) := by
  have hh : headB noName 11 0 ⟨#[]⟩ 1 = true := by rw [headB, noneE]; decide
  have h1 : sizeD noName 6 (.mk 11 0 ⟨#[]⟩ [numX a]) = some (2, 2) := by
    show (if headB noName 11 0 ⟨#[]⟩ 1 = true then foldSz (sizeD noName 5) [numX a] 1 1 else none) = _
    rw [if_pos hh, foldSz, numX_size ha]
    rfl
  rw [evalR, h1]
  rfl
theorem two_plain {op a b : Int} (hop : 3 ≤ op ∧ op ≤ 9) : anyOp namedOp 2 (.mk op 0 ⟨#[]⟩ [numX a, numX b]) = false := by
  have h12 : namedOp op = false := by simp [namedOp]; omega
  show (namedOp op || (_ || (_ || false))) = false
  rw [h12]
  rfl
/-- Numbers lie in a list. -/
theorem nums_at {w : World} {kb : Nat} {a b : Int} (h : w.heap[kb]? = some (.cells #[.int .i64 1, .int .i64 a, .string ⟨#[]⟩, .slice none 0 0, .int .i64 1, .int .i64 b, .string ⟨#[]⟩, .slice none 0 0] 29 (0, 0))) {n : Nat} (hn : n ≤ 2) :
    SliceRd 4 (ExprAt 1) w (some ⟨kb, 0, none⟩) n ([numX a, numX b].take n) := by
  have hc : ∀ i v, [Value.int .i64 1, .int .i64 a, .string ⟨#[]⟩, .slice none 0 0, .int .i64 1, .int .i64 b, .string ⟨#[]⟩, .slice none 0 0][i]? = some v → w.cell? ⟨kb, 0 + i, none⟩ = some v := fun i v hv => by
    rw [cell_of_row _ _ (0 + i) _ _ _ h]
    simpa using hv
  have hk : ∀ z : Int, ExprAt 1 w [.int .i64 1, .int .i64 z, .string ⟨#[]⟩, .slice none 0 0] (numX z) := fun z => ⟨none, 0, rfl, ⟨by show (0 : Nat) ≤ maxLen; exact Nat.zero_le _, (by decide : (-9223372036854775808 : Int) ≤ 1), (by decide : (1 : Int) ≤ 9223372036854775807)⟩, rfl, [], .inl rfl, rfl, by simp, by simp⟩
  refine ⟨by simp; omega, [[.int .i64 1, .int .i64 a, .string ⟨#[]⟩, .slice none 0 0], [.int .i64 1, .int .i64 b, .string ⟨#[]⟩, .slice none 0 0]].take n, ?_, by simp; omega, ?_, ?_⟩
  · have h3 : n = 0 ∨ n = 1 ∨ n = 2 := by omega
    rcases h3 with rfl | rfl | rfl
    · exact .inl rfl
    · refine .inr ⟨kb, 0, rfl, fun i v hv => hc i v ?_⟩
      have hi : i < 4 := (List.getElem?_eq_some_iff.1 hv).1
      have : i = 0 ∨ i = 1 ∨ i = 2 ∨ i = 3 := by omega
      rcases this with rfl | rfl | rfl | rfl <;> exact hv
    · exact .inr ⟨kb, 0, rfl, hc⟩
  · intro c hc
    have := List.mem_of_mem_take hc
    simp at this
    rcases this with rfl | rfl <;> rfl
  · intro i c x hc hx
    rw [List.getElem?_take] at hc hx
    split at hc
    · rw [if_pos (by assumption)] at hx
      have hi : i < 2 := (List.getElem?_eq_some_iff.1 hc).1
      have : i = 0 ∨ i = 1 := by omega
      rcases this with rfl | rfl
      · cases hc; cases hx; exact hk a
      · cases hc; cases hx; exact hk b
    · cases hc

theorem doD_cases (op a b : Int) : doD op a b = (-1, -1) ∨ (inE 0 a 255 = true ∧ inE 0 b 255 = true ∧ ((op = 1 ∧ doD op a b = (a, 0)) ∨ (op = 2 ∧ doD op a b = (a, 0)) ∨ (op = 10 ∧ doD op a b = (truthI (a == 0), 0)) ∨ ((3 ≤ op ∧ op ≤ 9) ∧ doD op a b = arithP (arithD op a b)))) := by
  unfold doD
  cases ha : inE 0 a 255 with
  | false => exact .inl rfl
  | true =>
    cases hb : inE 0 b 255 with
    | false => exact .inl rfl
    | true =>
      rw [if_pos (show (true && true) = true from rfl)]
      by_cases h1 : op = 1
      · exact .inr ⟨rfl, rfl, .inl ⟨h1, by rw [if_pos (.inl h1)]⟩⟩
      · by_cases h2 : op = 2
        · exact .inr ⟨rfl, rfl, .inr (.inl ⟨h2, by rw [if_pos (.inr h2)]⟩)⟩
        · rw [if_neg (by omega)]
          by_cases h10 : op = 10
          · exact .inr ⟨rfl, rfl, .inr (.inr (.inl ⟨h10, by rw [if_pos h10]⟩))⟩
          · rw [if_neg h10]
            by_cases hw : inE 3 op 9 = true
            · exact .inr ⟨rfl, rfl, .inr (.inr (.inr ⟨in_of hw, by rw [if_pos hw]⟩))⟩
            · rw [if_neg hw]
              exact .inl rfl

set_option maxRecDepth 100000 in
set_option maxHeartbeats 8000000 in
theorem fnDoIns_walk (a : Option Addr) (len cap : Nat) (zs : List Int) (w : World) (hO : OpsAt w) (hrow : IsRow .u8 w a len cap zs) :
    Calls Tryd.prog 3 #[.slice a len cap] w fun e w' => e = .returned (.bool true) ∧ Below w.heap.size w w' := by
  have hin := bytes_of_row hrow
  have hcap := cap_of_row hrow
  clear hrow
  by_cases hbig : 1048576 < len
  · go_enter Tryd.func3, Tryd.ntmps3
    go_wp2
    go_ret
    exact ⟨rfl, Below.refl _ _⟩
  · go_enter Tryd.func3, Tryd.ntmps3
    go_wp2_with fail
    refine (drawDoIns_any w a len cap _ hin hcap).mono ?_
    rintro e w1 ⟨op, x, y, rfl, hop, hb1⟩
    have HB1 := Lib.hid (And.intro hb1 (hO.later hb1))
    clear hin hcap hb1 hO
    have HIM := Lib.hid (implDoIns_any op x y w1)
    have HSP := Lib.hid (specDoIns_any op x y w1)
    have hcase := doD_cases op x y
    obtain ⟨n, en, hd⟩ : ∃ n en, doD op x y = (n, en) := ⟨_, _, rfl⟩
    rw [hd] at HIM HSP
    rw [hd] at hcase
    have HD := Lib.hid hd
    clear hd
    go_wp2_with fail
    refine HIM.out.mono ?_
    rintro e w2 ⟨rfl, rfl⟩
    go_wp2_with fail
    refine HSP.out.mono ?_
    rintro e w3 ⟨rfl, rfl⟩
    clear HIM HSP
    have hnn : (n == n) = true := by simp
    have hnn2 : (n != n) = false := by simp
    rcases hcase with hc | ⟨hx, hy, hc⟩
    · cases hc
      go_wp2
      go_ret
      exact ⟨rfl, HB1.out.1⟩
    · have HXY := Lib.hid (And.intro hx hy)
      clear hx hy
      rcases hc with ⟨h1, hc⟩ | ⟨h1, hc⟩ | ⟨h1, hc⟩ | ⟨h1, hc⟩
      · cases hc
        subst h1
        go_wp2
        go_ret
        exact ⟨rfl, (HB1.out.1.alloc HB1.out.1.size _).alloc (by rw [World.size_alloc]; have := HB1.out.1.size; omega) _⟩
      · cases hc
        subst h1
        go_wp2
        go_ret
        exact ⟨rfl, (HB1.out.1.alloc HB1.out.1.size _).alloc (by rw [World.size_alloc]; have := HB1.out.1.size; omega) _⟩
      · cases hc
        subst h1
        have HV := Lib.hid (show ((truthI (x == 0), 0) : Int × Int) = evalR noName 2 (.mk 11 0 ⟨#[]⟩ [numX x]) from (not_eval HXY.out.1).symm)
        generalize truthI (x == 0) = n at *
        clear hop
        go_upto_region 14 with fail
        go_wp2_with fail
        have hba : Below w3.heap.size w3 ((w3.alloc (.cells #[.int .i64 1, .int .i64 x, .string ⟨#[]⟩, .slice none 0 0, .int .i64 1, .int .i64 y, .string ⟨#[]⟩, .slice none 0 0] 29)).alloc (.cells #[.int .i64 11, .int .i64 0, .string ⟨#[]⟩, .slice (some ⟨w3.heap.size, 0, none⟩) 1 2] 29)) := ((Below.refl _ _).alloc (Nat.le_refl _) _).alloc (by simp) _
        have hk := heap_alloc2_old w3 (.cells #[.int .i64 1, .int .i64 x, .string ⟨#[]⟩, .slice none 0 0, .int .i64 1, .int .i64 y, .string ⟨#[]⟩, .slice none 0 0] 29) (.cells #[.int .i64 11, .int .i64 0, .string ⟨#[]⟩, .slice (some ⟨w3.heap.size, 0, none⟩) 1 2] 29)
        refine (evalExpr_nil noName 2 [.int .i64 11, .int .i64 0, .string ⟨#[]⟩, .slice (some ⟨w3.heap.size, 0, none⟩) 1 2] (.mk 11 0 ⟨#[]⟩ [numX x]) _ (HB1.out.2.later hba) ⟨_, _, rfl, ⟨by show (1 : Nat) ≤ maxLen; decide, (by decide : (-9223372036854775808 : Int) ≤ 11), (by decide : (11 : Int) ≤ 9223372036854775807)⟩, nums_at hk (by omega : 1 ≤ 2)⟩ rfl).mono ?_
        rw [← HV.out]
        rintro e w4 ⟨rfl, hb4⟩
        have HE := Lib.hid (show Below w.heap.size w w4 from HB1.out.1.trans ((hba.trans (hb4.mono hba.size)).mono HB1.out.1.size))
        clear hba hk hb4
        go_wp2
        go_ret
        exact ⟨rfl, HE.out⟩
      · have HV := Lib.hid (show ((n, en) : Int × Int) = evalR noName 2 (.mk op 0 ⟨#[]⟩ [numX x, numX y]) by rw [two_eval h1 HXY.out.1 HXY.out.2, hc])
        have HOP := Lib.hid h1
        have hen : ¬ en < 0 := by
          cases hA : arithD op x y with
          | none => rw [hA] at hc; cases hc; omega
          | some v => rw [hA] at hc; cases hc; omega
        have hop1 : ¬ op = 1 := by omega
        have hop2 : ¬ op = 2 := by omega
        have hop10 : ¬ op = 10 := by omega
        clear h1 hc hop
        go_wp2_with fail
        have hba : Below w3.heap.size w3 ((w3.alloc (.cells #[.int .i64 1, .int .i64 x, .string ⟨#[]⟩, .slice none 0 0, .int .i64 1, .int .i64 y, .string ⟨#[]⟩, .slice none 0 0] 29)).alloc (.cells #[.int .i64 op, .int .i64 0, .string ⟨#[]⟩, .slice (some ⟨w3.heap.size, 0, none⟩) 2 2] 29)) := ((Below.refl _ _).alloc (Nat.le_refl _) _).alloc (by simp) _
        have hk := heap_alloc2_old w3 (.cells #[.int .i64 1, .int .i64 x, .string ⟨#[]⟩, .slice none 0 0, .int .i64 1, .int .i64 y, .string ⟨#[]⟩, .slice none 0 0] 29) (.cells #[.int .i64 op, .int .i64 0, .string ⟨#[]⟩, .slice (some ⟨w3.heap.size, 0, none⟩) 2 2] 29)
        refine (evalExpr_nil noName 2 [.int .i64 op, .int .i64 0, .string ⟨#[]⟩, .slice (some ⟨w3.heap.size, 0, none⟩) 2 2] (.mk op 0 ⟨#[]⟩ [numX x, numX y]) _ (HB1.out.2.later hba) ⟨_, _, rfl, ⟨by show (2 : Nat) ≤ maxLen; decide, by show (-9223372036854775808 : Int) ≤ op; have := HOP.out; omega, by show op ≤ 9223372036854775807; have := HOP.out; omega⟩, nums_at hk (by omega : 2 ≤ 2)⟩ (two_plain HOP.out)).mono ?_
        rw [← HV.out]
        rintro e w4 ⟨rfl, hb4⟩
        have HE := Lib.hid (show Below w.heap.size w w4 from HB1.out.1.trans ((hba.trans (hb4.mono hba.size)).mono HB1.out.1.size))
        clear hba hk hb4
        go_wp2
        go_ret
        exact ⟨rfl, HE.out⟩

end Go.Proofs.YtccfbnhlhjlmgaaDoor
