
/-
  Where a block's rule ends: the reference's list, in memory of the call's own.
-/
import Derived.Test.YtonlidgmfmgcmaaFront
import Derived.Test.YtonlidgmfmgcmaaSortedO
namespace Go.Proofs.Ytonlidgmfmgcmaa
open Go.RowKit

theorem own_of_read {base : Nat} {w w' : World} {a a' : Option Addr} {c c' : Nat} {xs ys : List Int} (h : w.ownsRow base 3 1 (.slice a xs.length c) xs.length (xs.map (Value.int .i64)))
    (hr : (ys = xs ∧ a' = a ∧ c' = c ∧ w' = w) ∨ w'.ownsRow w.heap.size 3 1 (.slice a' ys.length c') ys.length (ys.map (Value.int .i64))) (hb : base ≤ w.heap.size) : w'.ownsRow base 3 1 (.slice a' ys.length c') ys.length (ys.map (Value.int .i64)) := by
  rcases hr with ⟨rfl, rfl, rfl, rfl⟩ | hr
  · exact h
  · exact own_lower hr (fun k hk => Nat.le_trans hb (hr.lt k hk).1)

set_option maxRecDepth 100000 in
set_option maxHeartbeats 4000000 in
theorem l11FrontierO_any (p r : Int) (ba : Option Addr) (bc : Nat) (g : List (List Int)) (da : Option Addr) (dc : Nat) (b : Nat) (hbn : b < g.length) (w : World) (hg : Gr w ba g) (hM : BMat w da g.length (domMat g)) :
    Calls Try.prog 25 #[.agg #[.int .i64 p, .int .i64 r, .slice ba g.length bc], .slice da g.length dc, .int .i64 (b : Int)] w fun e w' => RetInts w (filtTo (frontB g b) g.length) (filtTo (frontB g b) g.length).length e w' := by
  have H2 := Lib.hid (two_blocks w (.cells #[.int .i64 p, .int .i64 r, .slice ba g.length bc] 30) (.cells #[] 3))
  have he := Lib.hid (show ((w.alloc (.cells #[.int .i64 p, .int .i64 r, .slice ba g.length bc] 30)).alloc (.cells #[] 3)).ownsRow w.heap.size 3 1 (.slice (some ⟨w.heap.size + 1, 0, none⟩) 0 0) 0 (([] : List Int).map (Value.int .i64)) from by
    have := own_empty (w.alloc (.cells #[.int .i64 p, .int .i64 r, .slice ba g.length bc] 30)) w.heap.size 3 1 (by simp)
    rw [World.size_alloc] at this
    exact this)
  have hlen := hg.len
  have HH := Lib.hid H2.out.2.2.2.size
  go_enter Try.func25, Try.ntmps25
  go_wp2
  generalize (w.alloc (.cells #[.int .i64 p, .int .i64 r, .slice ba g.length bc] 30)).alloc (.cells #[] 3) = W0 at H2 he HH ⊢
  go_loopg [7, 8] g.length (fun F o i wr => ∃ k : Nat, k + F = g.length ∧ i = .int .i64 k ∧ ∃ oa oc, o = .slice oa (filtTo (frontB g b) k).length oc ∧ Hid (wr.ownsRow w.heap.size 3 1 (.slice oa (filtTo (frontB g b) k).length oc) (filtTo (frontB g b) k).length ((filtTo (frontB g b) k).map (Value.int .i64)) ∧ Below W0.heap.size W0 wr))
  case atStart => exact ⟨0, by omega, rfl, _, _, rfl, Lib.hid ⟨he.out, Below.refl _ _⟩⟩
  case round =>
    obtain ⟨k, hk, rfl, oa, oc, rfl, HK⟩ := hrel
    have hh := H2.out
    have hblk := (HK.out.2.block w.heap.size (by omega)).trans hh.1
    have hk0 : wr.cell? ⟨w.heap.size, 0, none⟩ = some (.int .i64 p) := cell_of_row _ _ 0 _ _ _ hblk
    have hk1 : wr.cell? ⟨w.heap.size, 1, none⟩ = some (.int .i64 r) := cell_of_row _ _ 1 _ _ _ hblk
    have hk2 : wr.cell? ⟨w.heap.size, 2, none⟩ = some (.slice ba g.length bc) := cell_of_row _ _ 2 _ _ _ hblk
    clear he hh hblk
    by_cases hlt : k < g.length
    · have hbw : Below w.heap.size w wr := H2.out.2.2.2.trans (HK.out.2.mono H2.out.2.2.2.size)
      go_wp2_with fail
      refine (l7Preds_any p r ba bc g (k : Int) wr (hg.later hbw)).mono ?_
      rintro e w2 ⟨a2, c2, rfl, hown2, hb2⟩
      have hpl := preds_len g (k : Int)
      have hrd2 := (ints_of_own hown2).toIntsRd
      have HB2 := Lib.hid (HK.out.2.trans (hb2.mono HK.out.2.size))
      have HM2 := Lib.hid (hM.later bRowR_lasts (hbw.trans (hb2.mono hbw.size)))
      have HI2 := Lib.hid (ownsRow_below HK.out.1 hb2)
      have HP := Lib.hid (show frontB g b k = (preds g (k : Int)).any (frontQ g b k) from rfl)
      have HPM := Lib.hid (fun x (hx : x ∈ preds g (k : Int)) => preds_mem hx)
      clear hown2 hb2 hbw hk0 hk1 hk2 HK
      generalize preds g (k : Int) = ps at hpl hrd2 HP HPM ⊢
      go_wp2
      go_loopg [7, 10] ps.length (fun F o i wq => ∃ j : Nat, j + F = ps.length ∧ i = .int .i64 j ∧ ∃ oa oc, o = .slice oa (withK (frontB g b) k ((ps.take j).any (frontQ g b k))).length oc ∧ Hid (wq.ownsRow w.heap.size 3 1 (.slice oa (withK (frontB g b) k ((ps.take j).any (frontQ g b k))).length oc) (withK (frontB g b) k ((ps.take j).any (frontQ g b k))).length (((withK (frontB g b) k ((ps.take j).any (frontQ g b k)))).map (Value.int .i64)) ∧ Below w2.heap.size w2 wq))
      case atStart => exact ⟨0, by omega, rfl, _, _, rfl, Lib.hid ⟨HI2.out, Below.refl _ _⟩⟩
      case round =>
        obtain ⟨j, hj, rfl, oa', oc', rfl, HJ⟩ := hrel
        by_cases hlt2 : j < ps.length
        · obtain ⟨q1, o1, x, rfl, hx, hcx⟩ := (hrd2.later HJ.out.2).place hlt2
          obtain ⟨y, hyn, rfl⟩ := HPM.out x (List.mem_of_getElem? hx)
          have hMq := HM2.out.later bRowR_lasts HJ.out.2
          obtain ⟨d1, do1, rb, ro, rc, rfl, c1, c2⟩ := BMat.cell hMq hbn hyn
          obtain ⟨d1', do1', rb', ro', rc', hq, e1, e2⟩ := BMat.cell hMq hbn hlt
          cases hq
          rw [c1] at e1
          simp only [Option.some.injEq, Value.slice.injEq, Addr.mk.injEq, and_true, true_and] at e1
          obtain ⟨⟨rfl, rfl⟩, rfl⟩ := e1
          have HS := Lib.hid (any_take_succ (q := frontQ g b k) hx)
          have hwl := withK_len (frontB g b) k ((ps.take j).any (frontQ g b k))
          rw [frontQ_nat] at HS
          clear hx hMq
          have hdist : ((k : Int) == (b : Int)) = (k == b) := by
            by_cases hkb : k = b
            · rw [hkb, beq_self_eq_true, beq_self_eq_true]
            · rw [beq_eq_false_iff_ne.2 hkb, beq_eq_false_iff_ne.2 (show (k : Int) ≠ (b : Int) by omega)]
          generalize (ps.take j).any (frontQ g b k) = fo at HS HJ hwl ⊢
          generalize (k == b) = ke at HS hdist
          generalize domB g b y = v at c2 HS
          generalize domB g b k = u at e2 HS
          cases v <;> cases ke <;> cases u <;> (
            go_wp2_with fail
            go_quiet (fail)
            first
            | (go_wp2
               go_roundg (gk - 1)
               case measure => omega
               case rel => exact ⟨j + 1, by omega, by go_num, oa', oc', by rw [show (ps.take (j + 1)).any (frontQ g b k) = fo from HS.out.trans (by cases fo <;> rfl)], by rw [show (ps.take (j + 1)).any (frontQ g b k) = fo from HS.out.trans (by cases fo <;> rfl)]; exact Lib.hid ⟨ownsRow_below HJ.out.1 (below_drewN (Below.refl _ _) _), below_drewN HJ.out.2 _⟩⟩)
            | (have hbd := below_drewN HJ.out.2 nq
               have hat := ownsRow_below HJ.out.1 (below_drewN (Below.refl _ _) nq)
               go_wp2_with fail
               refine (insertO_any oa' _ oc' _ (k : Int) _ (ints_of_own hat) (by omega)).mono ?_
               rw [withK_ins]
               rintro e w5 ⟨a5, c5, rfl, hro, hb5⟩
               have hat5 := own_of_read hat hro (Nat.le_trans HH.out (HB2.out.trans (HJ.out.2.mono HB2.out.size)).size)
               clear hro
               have HN := Lib.hid (And.intro hat5 (hbd.trans (hb5.mono hbd.size)))
               clear hat5 hb5 hbd hat
               go_wp2
               go_roundg (gk - 1)
               case measure => omega
               case rel => exact ⟨j + 1, by omega, by go_num, a5, c5, by rw [show (ps.take (j + 1)).any (frontQ g b k) = true from HS.out.trans (by cases fo <;> rfl)], by rw [show (ps.take (j + 1)).any (frontQ g b k) = true from HS.out.trans (by cases fo <;> rfl)]; exact HN⟩))
        · obtain rfl : j = ps.length := by omega
          have HW := Lib.hid (show withK (frontB g b) k ((ps.take ps.length).any (frontQ g b k)) = filtTo (frontB g b) (k + 1) by rw [List.take_length, ← HP.out, withK_succ])
          rw [HW.out] at HJ ⊢
          go_wp2
          go_roundg (g.length - (k + 1))
          case measure => omega
          case rel => exact ⟨k + 1, by omega, by go_num, oa', oc', rfl, Lib.hid ⟨HJ.out.1, HB2.out.trans (HJ.out.2.mono HB2.out.size)⟩⟩
    · obtain rfl : k = g.length := by omega
      go_wp2
      go_ret
      exact ⟨_, _, rfl, HK.out.1, H2.out.2.2.2.trans (HK.out.2.mono H2.out.2.2.2.size)⟩

end Go.Proofs.Ytonlidgmfmgcmaa
