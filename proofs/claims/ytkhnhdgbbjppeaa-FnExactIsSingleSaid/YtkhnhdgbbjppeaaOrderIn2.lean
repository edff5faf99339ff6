
/-
  The reference's order of the blocks, and both functions OrderIn.
-/
import Derived.Test.YtkhnhdgbbjppeaaReverse
namespace Go.Proofs.Ytkhnhdgbbjppeaa
open Go.RowKit

/-- The cells of a row of bools just made. -/
def falses (n : Nat) : Array Value := madeCells (Value.bool false).cells n
theorem falses_list (n : Nat) : (falses n).toList = (List.replicate n false).map Value.bool := by
  have := made_bools n
  rw [Nat.mul_one] at this
  exact this
theorem run_make_bools {n : Nat} (hn : n ≤ 1048576) (W : World) : (Instr.makeSlice 124 (.int .i64 (n : Int)) (.int .i64 (n : Int))).run Try.prog W = .ok (.slice (some ⟨W.heap.size, 0, none⟩) n n) (W.alloc (.cells (falses n) 4)) := by
  obtain ⟨i0, hi, hz0, hz1, hz2⟩ := info_parts info_bool
  have h := run_make (P := Try.prog) W 124 4 i0 (.bool false) und_bools hi hz0 .i64 .i64 n n (by omega) (by omega) (by rw [hz2]; omega) (by omega)
  simp only [Int.toNat_natCast, hz1, Nat.mul_one] at h
  exact h
theorem own_falses (W : World) (n base : Nat) (hb : base ≤ W.heap.size) (hn : n ≤ 1048576) : (W.alloc (.cells (falses n) 4)).ownsRow base 4 1 (.slice (some ⟨W.heap.size, 0, none⟩) n n) n ((List.replicate n false).map Value.bool) := by
  have hs : (falses n).size = n := by rw [← Array.length_toList, falses_list]; simp
  refine ⟨by simp, .inr ⟨W.heap.size, n, falses n, rfl, hb, heap_alloc_new W _, Nat.le_refl _, by unfold maxLen; omega, by omega, ?_⟩⟩
  rw [← falses_list, List.take_of_length_le (by rw [Array.length_toList, hs]; omega)]

/-- The visit from the first block on, at a world that holds the row of seen blocks and the empty list. -/
theorem visit_start (g : List (List Int)) (hf : Fits g) (p r : Int) (ba : Option Addr) (bc : Nat) (w : World) (hg : Gr w ba g) (sb : Nat) (oa : Option Addr) (W : World) (hb : Below w.heap.size w W)
    (h1 : W.ownsRow w.heap.size 4 1 (.slice (some ⟨sb, 0, none⟩) g.length g.length) g.length ((List.replicate g.length false).map Value.bool)) (h2 : W.ownsRow w.heap.size 3 1 (.slice oa 0 0) 0 []) :
    Calls Try.prog 126 #[.agg #[.int .i64 p, .int .i64 r, .slice ba g.length bc], .int .i64 0, .slice (some ⟨sb, 0, none⟩) g.length g.length, .slice oa 0 0] W fun e w' =>
      ∃ oa oc, e = .returned (.slice oa (leftOf g).length oc) ∧ w'.ownsRow w.heap.size 3 1 (.slice oa (leftOf g).length oc) (leftOf g).length ((leftOf g).map (Value.int .i64)) ∧ Below w.heap.size w w' := by
  have hlen := hg.len
  have hpos := hf.pos
  have hs := hb.size
  refine (l10Visit_any g hf p r ba bc w hg sb g.length 0 (List.replicate g.length false, []) oa 0 W hb h1 h2 (by have := unseen_le (List.replicate g.length false); simp at this ⊢; omega) hpos (by unfold seenAt; simp [hpos]) (by have := unseen_le (List.replicate g.length false); simpa using this)).mono ?_
  rintro e w2 ⟨oa', oc', rfl, hv⟩
  refine ⟨oa', oc', rfl, hv.list, hb.trans (hv.turned.below hs (fun k hk => ?_))⟩
  rcases hk with hk | hk
  · subst hk; exact (h1.lt k rfl).1
  · exact (h2.lt k hk).1
theorem visit_start1 (g : List (List Int)) (hf : Fits g) (p r : Int) (ba : Option Addr) (bc : Nat) (w : World) (hg : Gr w ba g) :
    Calls Try.prog 126 #[.agg #[.int .i64 p, .int .i64 r, .slice ba g.length bc], .int .i64 0, .slice (some ⟨w.heap.size + 1, 0, none⟩) g.length g.length, .slice (some ⟨w.heap.size + 1 + 1, 0, none⟩) 0 0]
      (((w.alloc (.cells #[.int .i64 p, .int .i64 r, .slice ba g.length bc] 51)).alloc (.cells (falses g.length) 4)).alloc (.cells #[] 3)).drew fun e w' =>
      ∃ oa oc, e = .returned (.slice oa (leftOf g).length oc) ∧ w'.ownsRow w.heap.size 3 1 (.slice oa (leftOf g).length oc) (leftOf g).length ((leftOf g).map (Value.int .i64)) ∧ Below w.heap.size w w' := by
  have h1 := own_falses (w.alloc (.cells #[.int .i64 p, .int .i64 r, .slice ba g.length bc] 51)) g.length w.heap.size (by simp) hg.len
  have h2 := own_empty ((w.alloc (.cells #[.int .i64 p, .int .i64 r, .slice ba g.length bc] 51)).alloc (.cells (falses g.length) 4)) w.heap.size 3 1 (by simp; omega)
  simp only [World.size_alloc] at h1 h2
  exact visit_start g hf p r ba bc w hg _ _ _ (((((Below.refl w.heap.size w).alloc (Nat.le_refl _) _).alloc (by simp) _).alloc (by simp; omega) _).drew) (h1.alloc _).drew h2.drew
theorem visit_start2 (g : List (List Int)) (hf : Fits g) (p r : Int) (ba : Option Addr) (bc : Nat) (w : World) (hg : Gr w ba g) :
    Calls Try.prog 126 #[.agg #[.int .i64 p, .int .i64 r, .slice ba g.length bc], .int .i64 0, .slice (some ⟨w.heap.size + 1 + 1, 0, none⟩) g.length g.length, .slice (some ⟨w.heap.size + 1, 0, none⟩) 0 0]
      (((w.alloc (.cells #[.int .i64 p, .int .i64 r, .slice ba g.length bc] 51)).alloc (.cells #[] 3)).alloc (.cells (falses g.length) 4)).drew fun e w' =>
      ∃ oa oc, e = .returned (.slice oa (leftOf g).length oc) ∧ w'.ownsRow w.heap.size 3 1 (.slice oa (leftOf g).length oc) (leftOf g).length ((leftOf g).map (Value.int .i64)) ∧ Below w.heap.size w w' := by
  have h2 := own_empty (w.alloc (.cells #[.int .i64 p, .int .i64 r, .slice ba g.length bc] 51)) w.heap.size 3 1 (by simp)
  have h1 := own_falses ((w.alloc (.cells #[.int .i64 p, .int .i64 r, .slice ba g.length bc] 51)).alloc (.cells #[] 3)) g.length w.heap.size (by simp; omega) hg.len
  simp only [World.size_alloc] at h1 h2
  exact visit_start g hf p r ba bc w hg _ _ _ (((((Below.refl w.heap.size w).alloc (Nat.le_refl _) _).alloc (by simp) _).alloc (by simp; omega) _).drew) h1.drew (h2.alloc _).drew

set_option maxRecDepth 100000 in
set_option maxHeartbeats 4000000 in
theorem l10Order_of (g : List (List Int)) (hf : Fits g) (p r : Int) (ba : Option Addr) (bc : Nat) (w : World) (hg : Gr w ba g) (L : List Int) (hL : leftOf g = L) :
    Calls Try.prog 82 #[.agg #[.int .i64 p, .int .i64 r, .slice ba g.length bc]] w fun e w' => RetInts w L.reverse L.length e w' := by
  have hlen := hg.len
  have hpos := hf.pos
  have hmk := fun W => run_make_bools (n := g.length) hlen W
  have HS1 := Lib.hid (hL ▸ visit_start1 g hf p r ba bc w hg)
  have HS2 := Lib.hid (hL ▸ visit_start2 g hf p r ba bc w hg)
  go_enter Try.func82, Try.ntmps82
  go_wp2_with fail
  go_region_law (go_simp; go_at_call 126; (first | with_reducible refine HS1.out.mono ?_ | with_reducible refine HS2.out.mono ?_); rintro e w2 ⟨oa, oc, rfl, hown, hbw⟩; (have HO := Lib.hid (And.intro hown hbw)); clear hown hbw)
  all_goals
    clear HS1 HS2 hmk hg
    have hllen : L.length ≤ g.length := by rw [← hL]; exact leftOf_len g
    clear hL
    have hsz := HO.out.2.size
    have HG0 := Lib.hid (Gath.start w2)
    have HR := Lib.hid (ints_of_own HO.out.1).toIntsRd
    go_wp2
    go_loopg [4, 5] L.length (fun F o i wr => ∃ (k : Nat) (iz : Int), i = .int .i64 iz ∧ iz = (L.length : Int) - 1 - k ∧ k + F = L.length ∧ ∃ oa oc, o = .slice oa k oc ∧ Hid (Gath w2 (L.reverse.take k) oa k oc wr))
    case atStart => exact ⟨0, _, rfl, by omega, by omega, _, _, rfl, HG0⟩
    case round =>
      obtain ⟨k, iz, rfl, hiz, hk, oa', oc', rfl, HG⟩ := hrel
      clear HG0
      by_cases hlt : k < L.length
      · obtain ⟨jn, rfl⟩ : ∃ n : Nat, iz = (n : Int) := ⟨iz.toNat, by omega⟩
        have hjn : jn = L.length - 1 - k := by omega
        have hjl : jn < L.length := by omega
        have hR := HR.out.later HG.out.below
        obtain ⟨b1, o1, x, rfl, hx, hc⟩ := hR.place hjl
        have hszw := HG.out.below.size
        have HX := Lib.hid (show L.reverse.take (k + 1) = L.reverse.take k ++ [x] by
          have hkr : k < L.reverse.length := by simpa using hlt
          rw [List.take_succ_eq_append_getElem hkr]
          have : L.reverse[k]? = some x := by rw [List.getElem?_reverse hlt, ← hjn, hx]
          rw [List.getElem?_eq_getElem hkr] at this
          cases this
          rfl)
        have HJ := Lib.hid (And.intro hiz hk)
        clear hx hjn hiz hk hR
        go_wp2_with (at_builtin; refine app_ints rfl (.tmp 21) (.tmp 26) rfl w2.heap.size _ k _ rfl (HG.out.row.alloc _) _ 1 _ [x] rfl rfl (rowAt_one _ _ _) (by rintro ⟨⟩) (by omega) (by simp; omega) ?_; intro a5 c5 w5 hown5 hg5 hlies5)
        have HN := Lib.hid (HG.out.push hown5 hg5)
        clear hown5 hg5 hlies5
        go_roundg (gk - 1)
        case measure => have := HJ.out; omega
        case rel => exact ⟨k + 1, (jn : Int) - 1, by go_num, by have := HJ.out; omega, by have := HJ.out; omega, a5, c5, rfl, Lib.hid (by rw [HX.out]; exact HN.out)⟩
      · have hke : k = L.length := by omega
        have HE := Lib.hid (show L.reverse.take k = L.reverse by rw [List.take_of_length_le]; simp; omega)
        go_wp2
        go_ret
        have h := HG.out
        rw [HE.out, hke] at h
        have h2 := h.ret
        rw [List.length_reverse] at h2
        obtain ⟨a3, c3, he, hown3, hb3⟩ := h2
        exact ⟨a3, c3, by rw [hke]; exact he, own_lower hown3 (fun k hk => by have := (hown3.lt k hk).1; omega), HO.out.2.trans (hb3.mono hsz)⟩

theorem l10Order_any (g : List (List Int)) (hf : Fits g) (p r : Int) (ba : Option Addr) (bc : Nat) (w : World) (hg : Gr w ba g) :
    Calls Try.prog 82 #[.agg #[.int .i64 p, .int .i64 r, .slice ba g.length bc]] w fun e w' => RetInts w (leftOf g).reverse (leftOf g).reverse.length e w' := by
  rw [List.length_reverse]
  exact l10Order_of g hf p r ba bc w hg _ rfl

end Go.Proofs.Ytkhnhdgbbjppeaa
