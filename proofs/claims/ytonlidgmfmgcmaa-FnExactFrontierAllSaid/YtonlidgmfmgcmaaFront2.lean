
/-
  Where a block's rule ends: the program's list, and the answers.
-/
import Derived.Test.YtonlidgmfmgcmaaFront
namespace Go.Proofs.Ytonlidgmfmgcmaa
open Go.RowKit

set_option maxRecDepth 100000 in
theorem frontier1_any (p r : Int) (ba : Option Addr) (bc : Nat) (g : List (List Int)) (db : Nat) (oa : Option Addr) (oc sb : Nat) (x b bd b1 : Nat) (hx : x < g.length) (hb : b < g.length) (w : World) (hD : DomsAt w p r ba bc g db oa oc sb)
    (hcd : w.cell? ⟨bd, 0, none⟩ = some (.pointer (some ⟨db, 0, none⟩))) (hcb : w.cell? ⟨b1, 0, none⟩ = some (.int .i64 (b : Int))) :
    Calls Try.prog 51 #[.int .i64 (x : Int), .pointer (some ⟨bd, 0, none⟩), .pointer (some ⟨b1, 0, none⟩)] w fun e w' => e = .returned (.bool (domB g b x)) ∧ Below w.heap.size w w' := by
  have hd3 : w.cell? ⟨db, 3, none⟩ = some (.slice oa g.length oc) := cell_of_row _ _ 3 _ _ _ hD.blk
  obtain ⟨q1, o1, rb, ro, rc, rfl, c1, c2⟩ := BMat.cell hD.over hb hx
  clear hD
  go_enter Try.func51, Try.ntmps51
  go_wp2_with fail
  go_quiet (fail)
  go_wp2
  go_ret
  exact ⟨rfl, below_drewN (Below.refl _ _) _⟩


set_option maxRecDepth 100000 in
set_option maxHeartbeats 4000000 in
theorem frontier_any (p r : Int) (ba : Option Addr) (bc : Nat) (g : List (List Int)) (db : Nat) (oa : Option Addr) (oc sb : Nat) (b : Nat) (hbn : b < g.length) (w : World) (hg : Gr w ba g) (hD : DomsAt w p r ba bc g db oa oc sb) (hlen : g.length ≤ 1048576) :
    Calls Try.prog 34 #[.pointer (some ⟨db, 0, none⟩), .int .i64 (b : Int)] w fun e w' => RetInts w (filtTo (frontB g b) g.length) (filtTo (frontB g b) g.length).length e w' := by
  have hmf : ∀ (fn : Fn) (first cap : Array Value) (w : World), (Instr.makeFunc fn first cap).run Try.prog w = .ok (.func fn first cap) w := fun _ _ _ _ => rfl
  have HH := Lib.hid (two_blocks w (.cells #[.pointer (some ⟨db, 0, none⟩)] 44) (.cells #[.int .i64 (b : Int)] 3))
  have hd4 : ((w.alloc (.cells #[.pointer (some ⟨db, 0, none⟩)] 44)).alloc (.cells #[.int .i64 (b : Int)] 3)).cell? ⟨db, 4, none⟩ = some (.slice (some ⟨sb, 0, none⟩) g.length g.length) := cell_of_row _ _ 4 _ _ _ (hD.later HH.out.2.2.2).blk
  have HD := Lib.hid hD
  clear hD
  go_enter Try.func34, Try.ntmps34
  go_wp2
  clear hd4
  generalize (w.alloc (.cells #[.pointer (some ⟨db, 0, none⟩)] 44)).alloc (.cells #[.int .i64 (b : Int)] 3) = W0 at HH ⊢
  have HG0 := Lib.hid (Gath.nil W0)
  go_loopg [5, 12] g.length (fun F o i wr => ∃ k : Nat, k + F = g.length ∧ i = .int .i64 k ∧ ∃ oa on oc, o = .slice oa on oc ∧ Hid (Gath W0 (filtTo (frontB g b) k) oa on oc wr))
  case atStart => exact ⟨0, by omega, rfl, _, _, _, rfl, HG0⟩
  case round =>
    obtain ⟨k, hk, rfl, oa', on, oc', rfl, HG⟩ := hrel
    clear HG0
    by_cases hlt : k < g.length
    · have hh := HH.out
      have hbw : Below w.heap.size w wr := hh.2.2.2.trans (HG.out.below.mono hh.2.2.2.size)
      have hDr := HD.out.later hbw
      have hgr := hg.later hbw
      have hcd : wr.cell? ⟨w.heap.size, 0, none⟩ = some (.pointer (some ⟨db, 0, none⟩)) := cell_of_row _ _ 0 _ _ _ ((HG.out.below.block _ (by omega)).trans hh.1)
      have hcb : wr.cell? ⟨w.heap.size + 1, 0, none⟩ = some (.int .i64 (b : Int)) := cell_of_row _ _ 0 _ _ _ ((HG.out.below.block _ (by omega)).trans hh.2.1)
      have hd0 : wr.cell? ⟨db, 0, none⟩ = some (.int .i64 p) := cell_of_row _ _ 0 _ _ _ hDr.blk
      have hd1 : wr.cell? ⟨db, 1, none⟩ = some (.int .i64 r) := cell_of_row _ _ 1 _ _ _ hDr.blk
      have hd2 : wr.cell? ⟨db, 2, none⟩ = some (.slice ba g.length bc) := cell_of_row _ _ 2 _ _ _ hDr.blk
      have hd3 : wr.cell? ⟨db, 3, none⟩ = some (.slice oa g.length oc) := cell_of_row _ _ 3 _ _ _ hDr.blk
      obtain ⟨q1, o1, rb, ro, rc, rfl, c1, c2⟩ := BMat.cell hDr.over hbn hlt
      have hbk : okN g.length (k : Int) = true := okN_iff.2 ⟨by omega, by omega⟩
      have HP := Lib.hid (fun q : Nat => predsOf_any p r ba bc g (k : Int) hbk (wr.drewN q) (hgr.later (below_drewN (Below.refl _ _) q)))
      have HF := Lib.hid (fun (W' : World) (hw : Below wr.heap.size wr W') => (⟨fun _ _ => rfl, fun x hx W hW => by
        obtain ⟨i, hi, rfl⟩ := preds_mem hx
        rw [Int.toNat_natCast]
        exact frontier1_any p r ba bc g db _ oc sb i b w.heap.size (w.heap.size + 1) hi hbn W ((hDr.later hw).later hW) (cell_later hW (cell_later hw hcd)) (cell_later hW (cell_later hw hcb))⟩ : IntFn W' 51 #[.pointer (some ⟨w.heap.size, 0, none⟩), .pointer (some ⟨w.heap.size + 1, 0, none⟩)] (preds g (k : Int)) (fun x => domB g b x.toNat)))
      have HSU := Lib.hid (filtTo_succ (frontB g b) k)
      have HFB := Lib.hid (frontB_eq g b k)
      have hon : on ≤ 1048576 := by have := HG.out.len; have := filtTo_len (frontB g b) k; omega
      have hdist : ((k : Int) != (b : Int)) = !(k == b) := by
        by_cases hkb : k = b
        · rw [hkb, beq_self_eq_true, bne_self_eq_false]; rfl
        · rw [beq_eq_false_iff_ne.2 hkb, bne_iff_ne.2 (show (k : Int) ≠ (b : Int) by omega)]; rfl
      clear hh hDr hgr hbk hbw
      generalize (k == b) = ke at HFB hdist
      generalize domB g b k = u at c2 HFB
      have hskip : u = true → ke = false → Hid (frontB g b k = false) := fun h1 h2 => Lib.hid (by rw [HFB.out, h1, h2]; simp)
      have hgo : (u = false ∨ ke = true) → Hid (frontB g b k = (preds g (k : Int)).any (fun x => domB g b x.toNat)) := fun h => Lib.hid (by rw [HFB.out]; rcases h with h | h <;> rw [h] <;> simp)
      cases u <;> cases ke
      case true.false =>
        have HB := hskip rfl rfl
        clear hskip hgo HFB HP HF
        go_wp2_with fail
        go_quiet (fail)
        go_wp2
        go_roundg (gk - 1)
        case measure => omega
        case rel => exact ⟨k + 1, by omega, by go_num, _, _, _, rfl, Lib.hid (by rw [HSU.out, if_neg (by rw [HB.out]; decide)]; exact HG.out.later (below_drewN (Below.refl _ _) _))⟩
      all_goals
        have HB := hgo (by first | exact .inl rfl | exact .inr rfl)
        clear hskip hgo HFB
        go_wp2_with fail
        go_quiet (fail)
        go_wp2_with fail
        refine (HP.out _).mono ?_
        rintro e w2 ⟨a2, c2', rfl, hown2, hb2⟩
        have hb12 : Below wr.heap.size wr w2 := ⟨hb2.os, hb2.tape, hb2.output, hb2.size, hb2.block⟩
        have hrd2 := (ints_of_own hown2).toIntsRd
        have hpl := preds_len g (k : Int)
        have HF2 := Lib.hid (HF.out w2 hb12)
        clear hown2 hb2 HF HP
        go_wp2_with fail
        refine (containsInts_any _ _ _ a2 _ c2' _ w2 hrd2 HF2.out (by omega)).mono ?_
        rw [← HB.out]
        rintro e w3 ⟨rfl, hb3⟩
        have HGC := Lib.hid (HG.out.later (hb12.trans (hb3.mono hb12.size)))
        have hszw := HGC.out.below.size
        clear hcd hcb hd0 hd1 hd2 hd3 c1 c2 hb12 hb3 hrd2 HF2 HB
        generalize frontB g b k = v at HSU
        cases v with
        | true =>
          go_wp2_with (at_builtin; refine app_ints rfl (.tmp 38) (.tmp 40) rfl W0.heap.size _ on _ rfl (HGC.out.row.alloc _) _ 1 _ [(k : Int)] rfl rfl (rowAt_one _ _ _) (by rintro ⟨⟩) (by omega) (by simp; omega) ?_; intro a5 c5 w5 hown5 hg5 hlies5)
          have HN2 := Lib.hid (HGC.out.push hown5 hg5)
          clear hown5 hg5 hlies5
          go_roundg (gk - 1)
          case measure => omega
          case rel => exact ⟨k + 1, by omega, by go_num, a5, _, c5, rfl, Lib.hid (by have h := HSU.out; simp at h; rw [h]; exact HN2.out)⟩
        | false =>
          go_wp2
          go_roundg (gk - 1)
          case measure => omega
          case rel => exact ⟨k + 1, by omega, by go_num, _, _, _, rfl, Lib.hid (by have h := HSU.out; simp at h; rw [h]; exact HGC.out)⟩
    · obtain rfl : k = g.length := by omega
      go_wp2
      go_ret
      have hl := HG.out.len
      subst hl
      exact ⟨_, _, rfl, own_lower HG.out.row (fun j hj => by have := (HG.out.row.lt j hj).1; have := HH.out.2.2.1; omega), HH.out.2.2.2.trans (HG.out.below.mono HH.out.2.2.2.size)⟩

end Go.Proofs.Ytonlidgmfmgcmaa
