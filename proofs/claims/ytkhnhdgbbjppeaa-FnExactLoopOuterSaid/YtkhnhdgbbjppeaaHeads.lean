
/-
  The heads of the loops: the reference's list and the program's.
-/
import Derived.Test.YtkhnhdgbbjppeaaPreds
import Derived.Test.YtkhnhdgbbjppeaaRdInts
namespace Go.Proofs.Ytkhnhdgbbjppeaa
open Go.RowKit

noncomputable def headB (g : List (List Int)) (h : Nat) : Bool := (preds g (h : Int)).any (fun b => domB g h b.toNat)
noncomputable def headsP (g : List (List Int)) : List Int := if fits g then filtTo (headB g) g.length else []
theorem filtTo_lt {p : Nat → Bool} {k : Nat} : ∀ y ∈ filtTo p k, y < (k : Int) := fun y hy => by
  obtain ⟨i, hi, _, rfl⟩ := filtTo_mem hy
  omega
theorem headsP_le {w : World} {ba : Option Addr} {g : List (List Int)} (h : Gr w ba g) : (headsP g).length ≤ 1048576 := by
  have := h.len
  unfold headsP
  split
  · have := filtTo_len (headB g) g.length; omega
  · simp
theorem any_take_succ {q : Int → Bool} {xs : List Int} {i : Nat} {x : Int} (h : xs[i]? = some x) : (xs.take (i + 1)).any q = ((xs.take i).any q || q x) := by
  rw [take_succ_of h, List.any_append]; simp
/-- What the list is while the predecessors of k are looked through: k is there once it has been found. -/
def withK (p : Nat → Bool) (k : Nat) (found : Bool) : List Int := if found then filtTo p k ++ [(k : Int)] else filtTo p k
theorem withK_len (p : Nat → Bool) (k : Nat) (f : Bool) : (withK p k f).length ≤ k + 1 := by
  have := filtTo_len p k
  unfold withK
  split
  · simp; omega
  · omega
theorem withK_ins (p : Nat → Bool) (k : Nat) (f : Bool) : ins (withK p k f) (k : Int) = withK p k true := by
  cases f with
  | true => exact ins_again filtTo_lt
  | false => exact ins_last filtTo_lt
theorem withK_succ (p : Nat → Bool) (k : Nat) : withK p k (p k) = filtTo p (k + 1) := by rw [filtTo_succ]; rfl
theorem preds_mem {g : List (List Int)} {b x : Int} (h : x ∈ preds g b) : ∃ i : Nat, i < g.length ∧ x = (i : Int) := by
  obtain ⟨i, hi, _, rfl⟩ := filtTo_mem h
  exact ⟨i, hi, rfl⟩

set_option maxRecDepth 100000 in
set_option maxHeartbeats 2000000 in
theorem l17Heads_any (p r : Int) (ba : Option Addr) (bc : Nat) (g : List (List Int)) (da : Option Addr) (dc : Nat) (w : World) (hg : Gr w ba g) (hM : BMat w da g.length (domMat g)) :
    Calls Try.prog 137 #[.agg #[.int .i64 p, .int .i64 r, .slice ba g.length bc], .slice da g.length dc] w fun e w' => ReadInts w (filtTo (headB g) g.length) e w' := by
  have H2 := Lib.hid (two_blocks w (.cells #[.int .i64 p, .int .i64 r, .slice ba g.length bc] 51) (.cells #[] 3))
  have he := Lib.hid (show IntsAt ((w.alloc (.cells #[.int .i64 p, .int .i64 r, .slice ba g.length bc] 51)).alloc (.cells #[] 3)) (some ⟨w.heap.size + 1, 0, none⟩) 0 0 [] from by
    have := own_empty (w.alloc (.cells #[.int .i64 p, .int .i64 r, .slice ba g.length bc] 51)) w.heap.size 3 1 (by simp)
    rw [World.size_alloc] at this
    exact ints_of_own (xs := []) this)
  have hlen := hg.len
  go_enter Try.func137, Try.ntmps137
  go_wp2
  generalize (w.alloc (.cells #[.int .i64 p, .int .i64 r, .slice ba g.length bc] 51)).alloc (.cells #[] 3) = W0 at H2 he ⊢
  go_loopg [5, 6] g.length (fun F o i wr => ∃ k : Nat, k + F = g.length ∧ i = .int .i64 k ∧ ∃ oa oc, o = .slice oa (filtTo (headB g) k).length oc ∧ Hid (IntsAt wr oa (filtTo (headB g) k).length oc (filtTo (headB g) k) ∧ Below W0.heap.size W0 wr))
  case atStart => exact ⟨0, by omega, rfl, _, _, rfl, Lib.hid ⟨he.out, Below.refl _ _⟩⟩
  case round =>
    obtain ⟨k, hk, rfl, oa, oc, rfl, HK⟩ := hrel
    have hh := H2.out
    have hblk := (HK.out.2.block w.heap.size (by omega)).trans hh.1
    have hk0 : wr.cell? ⟨w.heap.size, 0, none⟩ = some (.int .i64 p) := cell_of_row _ _ 0 _ _ _ hblk
    have hk1 : wr.cell? ⟨w.heap.size, 1, none⟩ = some (.int .i64 r) := cell_of_row _ _ 1 _ _ _ hblk
    have hk2 : wr.cell? ⟨w.heap.size, 2, none⟩ = some (.slice ba g.length bc) := cell_of_row _ _ 2 _ _ _ hblk
    clear he hh hblk
    by_cases hlt : k < g.length
    · have hbw : Below w.heap.size w wr := H2.out.2.2.2.trans (HK.out.2.mono H2.out.2.2.2.size)
      go_wp2_with fail
      refine (l7Preds_any p r ba bc g (k : Int) wr (hg.later hbw)).mono ?_
      rintro e w2 ⟨a2, c2, rfl, hown2, hb2⟩
      have hpl := preds_len g (k : Int)
      have hrd2 := (ints_of_own hown2).toIntsRd
      have HB2 := Lib.hid (HK.out.2.trans (hb2.mono HK.out.2.size))
      have HM2 := Lib.hid (hM.later bRowR_lasts (hbw.trans (hb2.mono hbw.size)))
      have HI2 := Lib.hid (HK.out.1.later hb2)
      have HP := Lib.hid (show headB g k = (preds g (k : Int)).any (fun b => domB g k b.toNat) from rfl)
      have HPM := Lib.hid (fun x (hx : x ∈ preds g (k : Int)) => preds_mem hx)
      clear hown2 hb2 hbw hk0 hk1 hk2 HK
      generalize preds g (k : Int) = ps at hpl hrd2 HP HPM ⊢
      go_wp2
      go_loopg [5, 8] ps.length (fun F o i wq => ∃ j : Nat, j + F = ps.length ∧ i = .int .i64 j ∧ ∃ oa oc, o = .slice oa (withK (headB g) k ((ps.take j).any (fun b => domB g k b.toNat))).length oc ∧ Hid (IntsAt wq oa (withK (headB g) k ((ps.take j).any (fun b => domB g k b.toNat))).length oc (withK (headB g) k ((ps.take j).any (fun b => domB g k b.toNat))) ∧ Below w2.heap.size w2 wq))
      case atStart => exact ⟨0, by omega, rfl, _, _, rfl, Lib.hid ⟨HI2.out, Below.refl _ _⟩⟩
      case round =>
        obtain ⟨j, hj, rfl, oa', oc', rfl, HJ⟩ := hrel
        by_cases hlt2 : j < ps.length
        · obtain ⟨q1, o1, x, rfl, hx, hcx⟩ := (hrd2.later HJ.out.2).place hlt2
          obtain ⟨b, hbn, rfl⟩ := HPM.out x (List.mem_of_getElem? hx)
          obtain ⟨d1, do1, rb, ro, rc, rfl, c1, c2⟩ := BMat.cell (HM2.out.later bRowR_lasts HJ.out.2) hlt hbn
          have HS := Lib.hid (any_take_succ (q := fun b => domB g k b.toNat) hx)
          have hwl := withK_len (headB g) k ((ps.take j).any (fun b => domB g k b.toNat))
          simp only [Int.toNat_natCast] at HS
          clear hx
          generalize domB g k b = v at c2 HS
          generalize (ps.take j).any (fun b => domB g k b.toNat) = fo at HS HJ hwl ⊢
          cases v with
          | false =>
            go_wp2_with fail
            go_quiet (fail)
            go_wp2
            go_roundg (gk - 1)
            case measure => omega
            case rel => exact ⟨j + 1, by omega, by go_num, oa', oc', by rw [HS.out, Bool.or_false], by rw [HS.out, Bool.or_false]; exact Lib.hid ⟨HJ.out.1.later (below_drewN (Below.refl _ _) _), below_drewN HJ.out.2 _⟩⟩
          | true =>
            go_wp2_with fail
            go_quiet (fail)
            have hbd := below_drewN HJ.out.2 nq
            have hat := HJ.out.1.later (below_drewN (Below.refl _ _) nq)
            go_wp2_with fail
            refine (insert_any oa' _ oc' _ (k : Int) _ hat (by omega)).mono ?_
            rw [withK_ins]
            rintro e w5 ⟨a5, c5, rfl, hat5, hb5⟩
            have HN := Lib.hid (And.intro hat5 (hbd.trans (hb5.mono hbd.size)))
            clear hat5 hb5 hbd hat
            go_wp2
            go_roundg (gk - 1)
            case measure => omega
            case rel => exact ⟨j + 1, by omega, by go_num, a5, c5, by rw [HS.out, Bool.or_true], by rw [HS.out, Bool.or_true]; exact HN⟩
        · obtain rfl : j = ps.length := by omega
          have HW := Lib.hid (show withK (headB g) k ((ps.take ps.length).any (fun b => domB g k b.toNat)) = filtTo (headB g) (k + 1) by rw [List.take_length, ← HP.out, withK_succ])
          rw [HW.out] at HJ ⊢
          go_wp2
          go_roundg (g.length - (k + 1))
          case measure => omega
          case rel => exact ⟨k + 1, by omega, by go_num, oa', oc', rfl, Lib.hid ⟨HJ.out.1, HB2.out.trans (HJ.out.2.mono HB2.out.size)⟩⟩
    · obtain rfl : k = g.length := by omega
      go_wp2
      go_ret
      exact ⟨_, _, rfl, HK.out.1, H2.out.2.2.2.trans (HK.out.2.mono H2.out.2.2.2.size)⟩

end Go.Proofs.Ytkhnhdgbbjppeaa
