/-
  The program's answer of LoopHeads.
-/
import Derived.Test.YtclihjgojmfjiaaHeads2
namespace Go.Proofs.Ytclihjgojmfjiaa
open Go.RowKit

set_option maxRecDepth 100000 in
theorem implLoopHeads_any (p r : Int) (ba : Option Addr) (bc : Nat) (g : List (List Int)) (w : World) (hg : Gr w ba g) :
    Calls Try.prog 37 #[.agg #[.int .i64 p, .int .i64 r, .slice ba g.length bc]] w fun e w' => RetInts w (headsP g) (headsP g).length e w' := by
  have hb0 := below_box w (.int .i64 p) (.int .i64 r) (.slice ba g.length bc)
  have hlen := hg.len
  go_enter Try.func37, Try.ntmps37
  go_wp2_with fail
  refine (domsOf_any g p r ba bc _ (hg.later hb0)).mono ?_
  rintro e w1 ⟨hb1, hcase⟩
  have hb01 := hb0.trans (hb1.mono hb0.size)
  rcases hcase with ⟨hf, rfl⟩ | ⟨hf, db, oa, oc, sb, rfl, hD⟩
  · have HP := Lib.hid (show headsP g = [] by rw [headsP, hf]; rfl)
    clear hf
    go_wp2
    go_ret
    rw [HP.out]
    exact ⟨none, 0, rfl, World.ownsRow_nil _ _ _ _, hb01⟩
  · have HP := Lib.hid (show headsP g = filtTo (headB g) g.length by rw [headsP, fits_iff.2 hf]; rfl)
    go_wp2_with fail
    refine (heads_any p r ba bc g hf db oa oc sb w1 (hg.later hb01) hD hlen).mono ?_
    rintro e w3 ⟨a3, c3, rfl, hown3, hb3⟩
    have HO3 := Lib.hid (And.intro hown3 hb3)
    clear hown3 hb3
    go_wp2
    go_ret
    rw [HP.out]
    exact ⟨_, _, rfl, own_lower HO3.out.1 (fun k hk => by have := (HO3.out.1.lt k hk).1; have := hb01.size; omega), hb01.trans (HO3.out.2.mono hb01.size)⟩

end Go.Proofs.Ytclihjgojmfjiaa
