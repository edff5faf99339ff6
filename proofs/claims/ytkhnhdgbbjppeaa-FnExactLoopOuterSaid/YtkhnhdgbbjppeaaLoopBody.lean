
/-
  The program's LoopBody.
-/
import Derived.Test.YtkhnhdgbbjppeaaBody
import Derived.Test.YtkhnhdgbbjppeaaLoopSpec
namespace Go.Proofs.Ytkhnhdgbbjppeaa
open Go.RowKit

theorem head_reached {g : List (List Int)} {h : Nat} (hb : headB g h = true) : reachB g (-1) h = true := by
  unfold headB at hb
  obtain ⟨x, _, hx⟩ := List.any_eq_true.1 hb
  exact (domB_has hx).1

set_option maxRecDepth 100000 in
theorem implLoopBody_any (p r : Int) (ba : Option Addr) (bc : Nat) (g : List (List Int)) (h : Int) (w : World) (hg : Gr w ba g) :
    Calls Try.prog 52 #[.agg #[.int .i64 p, .int .i64 r, .slice ba g.length bc], .int .i64 h] w fun e w' => RetInts w (loopP g h) (loopP g h).length e w' := by
  have hb0 := below_box w (.int .i64 p) (.int .i64 r) (.slice ba g.length bc)
  have hlen := hg.len
  have hhl := headsP_le hg
  go_enter Try.func52, Try.ntmps52
  go_wp2_with fail
  refine (domsOf_any g p r ba bc _ (hg.later hb0)).mono ?_
  rintro e w1 ⟨hb1, hcase⟩
  have hb01 := hb0.trans (hb1.mono hb0.size)
  rcases hcase with ⟨hf, rfl⟩ | ⟨hf, db, oa, oc, sb, rfl, hD⟩
  · have HP := Lib.hid (show loopP g h = [] by
      rw [loopP, if_neg (fun hm => by have := fits_iff.2 (headsP_mem hm).1; rw [hf] at this; cases this)])
    clear hf
    go_wp2
    go_ret
    rw [HP.out]
    exact ⟨none, 0, rfl, World.ownsRow_nil _ _ _ _, hb01⟩
  · have HP := Lib.hid (show headsP g = filtTo (headB g) g.length by rw [headsP, fits_iff.2 hf]; rfl)
    go_wp2_with fail
    refine (heads_any p r ba bc g hf db oa oc sb w1 (hg.later hb01) hD hlen).mono ?_
    rw [← HP.out]
    rintro e w3 ⟨a3, c3, rfl, hown3, hb3⟩
    have hb03 := hb01.trans (hb3.mono hb01.size)
    have HO3 := Lib.hid (And.intro hown3 (And.intro (hD.later hb3) hb03))
    clear hown3 hb3 hD
    go_wp2_with fail
    refine (contains_any a3 _ c3 (headsP g) h w3 (ints_of_own HO3.out.1).toIntsRd (by omega)).mono ?_
    rintro e w4 ⟨rfl, rfl⟩
    by_cases hm : h ∈ headsP g
    · have HL := Lib.hid (show loopP g h = loopL g h.toNat by rw [loopP, if_pos hm])
      obtain ⟨_, i, rfl, hil, hhb⟩ := headsP_mem hm
      have hd : decide ((i : Int) ∈ headsP g) = true := decide_eq_true hm
      have HB := Lib.hid (body_any p r ba bc g hf db oa oc sb i hil (head_reached hhb) w3 (hg.later HO3.out.2.2) HO3.out.2.1)
      clear hm
      go_wp2_with fail
      refine HB.out.mono ?_
      rintro e w5 ⟨a5, c5, rfl, hown5, hb5⟩
      have HO5 := Lib.hid (And.intro (own_lower hown5 (base' := w.heap.size) (fun k hk => Nat.le_trans HO3.out.2.2.size (hown5.lt k hk).1)) (HO3.out.2.2.trans (hb5.mono HO3.out.2.2.size)))
      clear hown5 hb5
      go_wp2
      go_ret
      rw [HL.out, Int.toNat_natCast]
      exact ⟨_, _, rfl, HO5.out.1, HO5.out.2⟩
    · have HL := Lib.hid (show loopP g h = [] by rw [loopP, if_neg hm])
      have hd : decide (h ∈ headsP g) = false := decide_eq_false hm
      clear hm
      go_wp2
      go_ret
      rw [HL.out]
      exact ⟨none, 0, rfl, World.ownsRow_nil _ _ _ _, HO3.out.2.2⟩
theorem loopP_len (g : List (List Int)) (h : Int) : (loopP g h).length ≤ g.length := by
  unfold loopP
  split
  · exact loopL_len _ _
  · simp
theorem specLoopBody_rd (p r : Int) (ba : Option Addr) (bc : Nat) (g : List (List Int)) (h : Int) (w : World) (hg : Gr w ba g) :
    Calls Try.prog 51 #[.agg #[.int .i64 p, .int .i64 r, .slice ba g.length bc], .int .i64 h] w fun e w' => RdInts w (loopP g h) e w' := by
  refine (specLoopBody_any p r ba bc g h w hg).mono ?_
  rintro e w' ⟨a, c, rfl, hown, hb⟩
  exact ⟨a, c, rfl, (ints_of_own hown).toIntsRd, hb⟩

end Go.Proofs.Ytkhnhdgbbjppeaa
