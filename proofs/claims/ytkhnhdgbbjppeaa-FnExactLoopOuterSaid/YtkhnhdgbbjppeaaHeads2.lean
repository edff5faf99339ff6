
/-
  The heads of the loops: the reference's answer, and the program's.
-/
import Derived.Test.YtkhnhdgbbjppeaaHeads
namespace Go.Proofs.Ytkhnhdgbbjppeaa
open Go.RowKit

/-- The same as Gath, and the first block of the call stands. -/
structure GathX (t : TypeId) (C : Array Value) (w : World) (xs : List Int) (oa : Option Addr) (on oc : Nat) (wr : World) : Prop where
  g : Gath w xs oa on oc wr
  cblk : wr.heap[w.heap.size]? = some (.cells C t (0, 0))
theorem GathX.lt {t : TypeId} {C : Array Value} {w wr : World} {xs : List Int} {oa : Option Addr} {on oc : Nat} (h : GathX t C w xs oa on oc wr) : w.heap.size < wr.heap.size := (Array.getElem?_eq_some_iff.1 h.cblk).1
theorem GathX.later {t : TypeId} {C : Array Value} {w wr w' : World} {xs : List Int} {oa : Option Addr} {on oc : Nat} (h : GathX t C w xs oa on oc wr) (hb : Below wr.heap.size wr w') : GathX t C w xs oa on oc w' := ⟨h.g.later hb, (hb.block _ h.lt).trans h.cblk⟩
theorem GathX.nil (t : TypeId) (C : Array Value) (w : World) : GathX t C w [] none 0 0 (w.alloc (.cells C t)) := ⟨⟨World.ownsRow_nil _ _ _ _, (Below.refl _ _).alloc (Nat.le_refl _) _⟩, heap_alloc_new w _⟩
theorem GathX.push {t : TypeId} (ht : t ≠ 3) {C : Array Value} {w wr w' : World} {xs : List Int} {oa a' : Option Addr} {on oc c' : Nat} {v : Int} (h : GathX t C w xs oa on oc wr) (hr : w'.ownsRow w.heap.size 3 1 (.slice a' (on + 1) c') (on + 1) (xs.map (Value.int .i64) ++ [v].map (Value.int .i64))) (hg : (wr.alloc (.cells #[.int .i64 v] 3)).grownBy w' (Value.slice oa on oc).ownBlock) : GathX t C w (xs ++ [v]) a' (on + 1) c' w' := by
  refine ⟨h.g.push hr hg, ?_⟩
  rw [hg.block _ (by have := h.lt; simp; omega) (fun e => by
    obtain ⟨cur, hc⟩ := own_type h.g.row e.symm
    rw [h.cblk] at hc
    simp at hc
    exact ht hc.2), heap_alloc_old wr _ h.lt]
  exact h.cblk

set_option maxRecDepth 100000 in
set_option maxHeartbeats 1000000 in
theorem specLoopHeads_any (p r : Int) (ba : Option Addr) (bc : Nat) (g : List (List Int)) (w : World) (hg : Gr w ba g) :
    Calls Try.prog 93 #[.agg #[.int .i64 p, .int .i64 r, .slice ba g.length bc]] w fun e w' => RdInts w (headsP g) e w' := by
  have hb0 := below_box w (.int .i64 p) (.int .i64 r) (.slice ba g.length bc)
  have HC := Lib.hid (heap_alloc_new w (.cells #[.int .i64 p, .int .i64 r, .slice ba g.length bc] 51))
  have hlen := hg.len
  go_enter Try.func93, Try.ntmps93
  go_wp2_with fail
  refine (l10Fits_any p r ba bc g _ (hg.later hb0)).mono ?_
  rintro e w1 ⟨rfl, hb1⟩
  have hb01 := hb0.trans (hb1.mono hb0.size)
  have hC1 := (hb1.block w.heap.size (by simp)).trans HC.out
  have hk0 : w1.cell? ⟨w.heap.size, 0, none⟩ = some (.int .i64 p) := cell_of_row _ _ 0 _ _ _ hC1
  have hk1 : w1.cell? ⟨w.heap.size, 1, none⟩ = some (.int .i64 r) := cell_of_row _ _ 1 _ _ _ hC1
  have hk2 : w1.cell? ⟨w.heap.size, 2, none⟩ = some (.slice ba g.length bc) := cell_of_row _ _ 2 _ _ _ hC1
  clear hC1
  cases hf : fits g with
  | false =>
    have HP := Lib.hid (show headsP g = [] by rw [headsP, hf]; rfl)
    clear hf
    have hs := hb01.size
    go_wp2
    go_ret
    rw [HP.out]
    exact ⟨_, _, rfl, (ints_of_own (xs := []) (own_empty w1 w.heap.size 3 1 hs)).toIntsRd, hb01.alloc hs _⟩
  | true =>
    have HP := Lib.hid (show headsP g = filtTo (headB g) g.length by rw [headsP, hf]; rfl)
    have hF := fits_iff.1 hf
    have HR := Lib.hid (fun q : Nat => l11Doms_any g hF p r ba bc (w1.drewN q) (hg.later (below_drewN hb01 q)))
    clear hf hb1
    go_wp2_with fail
    go_region_law (first | (go_simp; go_at_call 101; refine (HR.out _).mono ?_; rintro e w2 ⟨oa, oc, rfl, hM, hb2⟩; (have hb12 : Below w1.heap.size w1 w2 := ⟨hb2.os, hb2.tape, hb2.output, hb2.size, hb2.block⟩); (have hk0' := cell_later hb12 hk0); (have hk1' := cell_later hb12 hk1); (have hk2' := cell_later hb12 hk2); (have hg2 := hg.later (hb01.trans (hb12.mono hb01.size)))) | (go_simp; go_at_call 137; refine (l17Heads_any p r ba bc g oa oc w2 hg2 hM.rd).mono ?_; rintro e w3 ⟨a3, c3, rfl, hat3, hb3⟩))
    all_goals
      have hb02 := hb01.trans (hb12.mono hb01.size)
      have hb03 := hb02.trans (hb3.mono hb02.size)
      have HO := Lib.hid (And.intro hat3 hb03)
      clear hat3 hb3 hb03 hb02 hb12 hk0' hk1' hk2' hg2 hM hb2 hk0 hk1 hk2
      go_wp2
      go_ret
      rw [HP.out]
      exact ⟨_, _, rfl, HO.out.1.toIntsRd, HO.out.2⟩

/-! ### the program -/
theorem heads1_any (p r : Int) (ba : Option Addr) (bc : Nat) (g : List (List Int)) (hf : Fits g) (db : Nat) (oa : Option Addr) (oc sb : Nat) (x : Int) (h : Nat) (bd bh : Nat) (w : World) (hD : DomsAt w p r ba bc g db oa oc sb) (hlen : g.length ≤ 1048576)
    (hcd : w.cell? ⟨bd, 0, none⟩ = some (.pointer (some ⟨db, 0, none⟩))) (hch : w.cell? ⟨bh, 0, none⟩ = some (.int .i64 (h : Int))) :
    Calls Try.prog 139 #[.int .i64 x, .pointer (some ⟨bd, 0, none⟩), .pointer (some ⟨bh, 0, none⟩)] w fun e w' => e = .returned (.bool (domP g (h : Int) x)) ∧ Below w.heap.size w w' := by
  go_enter Try.func139, Try.ntmps139
  go_wp2_with fail
  refine (dominates_any p r ba bc g hf db oa oc sb (h : Int) x w hD hlen).mono ?_
  rintro e w2 ⟨rfl, hb2⟩
  go_wp2
  go_ret
  exact ⟨rfl, hb2⟩
theorem domP_nat {g : List (List Int)} (hf : Fits g) {a b : Nat} (ha : a < g.length) (hb : b < g.length) : domP g (a : Int) (b : Int) = domB g a b := by
  have h1 : inP g (a : Int) = true := inP_true.2 ⟨hf, by omega, by omega⟩
  have h2 : inP g (b : Int) = true := inP_true.2 ⟨hf, by omega, by omega⟩
  rw [domP, h1, h2]; simp
theorem headB_of {g : List (List Int)} (hf : Fits g) {k : Nat} (hk : k < g.length) : (preds g (k : Int)).any (fun x => domP g (k : Int) x) = headB g k := by
  unfold headB
  have key : ∀ l : List Int, (∀ x ∈ l, ∃ i : Nat, i < g.length ∧ x = (i : Int)) → l.any (fun x => domP g (k : Int) x) = l.any (fun b => domB g k b.toNat) := by
    intro l
    induction l with
    | nil => intro _; rfl
    | cons y l ih =>
      intro h
      obtain ⟨i, hi, rfl⟩ := h y (by simp)
      rw [List.any_cons, List.any_cons, ih (fun x hx => h x (by simp [hx])), domP_nat hf hk hi, Int.toNat_natCast]
  exact key _ (fun x hx => preds_mem hx)

set_option maxRecDepth 100000 in
set_option maxHeartbeats 2000000 in
theorem heads_any (p r : Int) (ba : Option Addr) (bc : Nat) (g : List (List Int)) (hf : Fits g) (db : Nat) (oa : Option Addr) (oc sb : Nat) (w : World) (hg : Gr w ba g) (hD : DomsAt w p r ba bc g db oa oc sb) (hlen : g.length ≤ 1048576) :
    Calls Try.prog 96 #[.pointer (some ⟨db, 0, none⟩)] w fun e w' => RetInts w (filtTo (headB g) g.length) (filtTo (headB g) g.length).length e w' := by
  have hmf : ∀ (fn : Fn) (first cap : Array Value) (w : World), (Instr.makeFunc fn first cap).run Try.prog w = .ok (.func fn first cap) w := fun _ _ _ _ => rfl
  have HG0 := Lib.hid (GathX.nil 90 #[.pointer (some ⟨db, 0, none⟩)] w)
  have hd4 : (w.alloc (.cells #[.pointer (some ⟨db, 0, none⟩)] 90)).cell? ⟨db, 4, none⟩ = some (.slice (some ⟨sb, 0, none⟩) g.length g.length) := cell_of_row _ _ 4 _ _ _ (hD.later ((Below.refl _ _).alloc (Nat.le_refl _) _)).blk
  have HD := Lib.hid hD
  clear hD
  go_enter Try.func96, Try.ntmps96
  go_wp2
  clear hd4
  go_loopg [3, 10] g.length (fun F o i wr => ∃ k : Nat, k + F = g.length ∧ i = .int .i64 k ∧ ∃ oa on oc, o = .slice oa on oc ∧ Hid (GathX 90 #[.pointer (some ⟨db, 0, none⟩)] w (filtTo (headB g) k) oa on oc wr))
  case atStart => exact ⟨0, by omega, rfl, _, _, _, rfl, HG0⟩
  case round =>
    obtain ⟨k, hk, rfl, oa', on, oc', rfl, HG⟩ := hrel
    clear HG0
    by_cases hlt : k < g.length
    · have hba : Below wr.heap.size wr (wr.alloc (.cells #[.int .i64 (k : Int)] 3)) := (Below.refl _ _).alloc (Nat.le_refl _) _
      have HGA := Lib.hid (HG.out.later hba)
      have hch := rowAt_new wr (.int .i64 (k : Int)) 3
      have hba0 := hba.size
      go_upto_region 5 with fail
      generalize wr.alloc (.cells #[.int .i64 (k : Int)] 3) = wa at HGA hch hba ⊢
      have hDa := HD.out.later HGA.out.g.below
      have hga := hg.later HGA.out.g.below
      have hcd : wa.cell? ⟨w.heap.size, 0, none⟩ = some (.pointer (some ⟨db, 0, none⟩)) := cell_of_row _ _ 0 _ _ _ HGA.out.cblk
      have hd0 : wa.cell? ⟨db, 0, none⟩ = some (.int .i64 p) := cell_of_row _ _ 0 _ _ _ hDa.blk
      have hd1 : wa.cell? ⟨db, 1, none⟩ = some (.int .i64 r) := cell_of_row _ _ 1 _ _ _ hDa.blk
      have hd2 : wa.cell? ⟨db, 2, none⟩ = some (.slice ba g.length bc) := cell_of_row _ _ 2 _ _ _ hDa.blk
      have hbk : okN g.length (k : Int) = true := okN_iff.2 ⟨by omega, by omega⟩
      have HP := Lib.hid (fun q : Nat => predsOf_any p r ba bc g (k : Int) hbk (wa.drewN q) (hga.later (below_drewN (Below.refl _ _) q)))
      have HDA := Lib.hid hDa
      have HF := Lib.hid (fun (W' : World) (hw : Below wa.heap.size wa W') => (⟨fun _ _ => rfl, fun x _ W hW => heads1_any p r ba bc g hf db oa oc sb x k w.heap.size wr.heap.size W ((HDA.out.later hw).later hW) hlen (cell_later hW (cell_later hw hcd)) (cell_later hW (cell_later hw hch))⟩ : IntFn W' 139 #[.pointer (some ⟨w.heap.size, 0, none⟩), .pointer (some ⟨wr.heap.size, 0, none⟩)] (preds g (k : Int)) (fun x => domP g (k : Int) x)))
      clear hDa hga hbk
      go_cut [20] (fun b wx => b = .bool (headB g k) ∧ Hid (Below wa.heap.size wa wx))
      case first =>
        go_region_law (first | (go_simp; go_at_call 115; refine (HP.out _).mono ?_; rintro e w2 ⟨a2, c2, rfl, hown2, hb2⟩; (have hba2 : Below wa.heap.size wa w2 := ⟨hb2.os, hb2.tape, hb2.output, hb2.size, hb2.block⟩); (have hcd' := cell_later hba2 hcd); (have hch' := cell_later hba2 hch); (have hrd2 := (ints_of_own hown2).toIntsRd); (have hpl := preds_len g (k : Int))) | (go_simp; go_at_call 113; refine (containsInts_any _ _ _ a2 _ c2 _ w2 hrd2 (HF.out w2 hba2) (by omega)).mono ?_; rw [headB_of hf hlt]; rintro e w3 ⟨rfl, hb3⟩))
        all_goals
          have HB := Lib.hid (hba2.trans (hb3.mono hba2.size))
          clear hba2 hb3 hb2 hown2 hrd2 hcd' hch' hcd hch hd0 hd1 hd2
          go_wp2_with fail
          go_meet
          exact ⟨rfl, HB⟩
      case rest =>
        obtain ⟨rfl, HB⟩ := hcut
        have hch2 := cell_later HB.out hch
        have HGC := Lib.hid (HGA.out.later HB.out)
        have hon : on ≤ 1048576 := by have := HG.out.g.len; have := filtTo_len (headB g) k; omega
        have hszw := HGC.out.g.below.size
        have HSU := Lib.hid (filtTo_succ (headB g) k)
        clear hch hcd hd0 hd1 hd2 HB HDA HP
        generalize headB g k = v at HSU
        cases v with
        | true =>
          go_wp2_with (at_builtin; refine app_ints rfl (.tmp 21) (.tmp 23) rfl w.heap.size _ on _ rfl (HGC.out.g.row.alloc _) _ 1 _ [(k : Int)] rfl rfl (rowAt_one _ _ _) (by rintro ⟨⟩) (by omega) (by simp; omega) ?_; intro a5 c5 w5 hown5 hg5 hlies5)
          have HN2 := Lib.hid (HGC.out.push (by decide) hown5 hg5)
          clear hown5 hg5 hlies5
          go_roundg (gk - 1)
          case measure => omega
          case rel => exact ⟨k + 1, by omega, by go_num, a5, _, c5, rfl, Lib.hid (by have h := HSU.out; simp at h; rw [h]; exact HN2.out)⟩
        | false =>
          go_wp2
          go_roundg (gk - 1)
          case measure => omega
          case rel => exact ⟨k + 1, by omega, by go_num, _, _, _, rfl, Lib.hid (by have h := HSU.out; simp at h; rw [h]; exact HGC.out)⟩
    · obtain rfl : k = g.length := by omega
      go_wp2
      go_ret
      exact HG.out.g.ret

end Go.Proofs.Ytkhnhdgbbjppeaa
