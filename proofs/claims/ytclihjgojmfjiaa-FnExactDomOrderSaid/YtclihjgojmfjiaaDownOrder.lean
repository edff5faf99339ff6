/-
  The program's order of the blocks by dominance.
-/
import Derived.Test.YtclihjgojmfjiaaDownImpl
import Derived.Test.YtclihjgojmfjiaaOrderIn
namespace Go.Proofs.Ytclihjgojmfjiaa
open Go.RowKit

/-- The children of m among the first k blocks. -/
noncomputable def kTo (g : List (List Int)) (k : Nat) (m : Int) : List Int := filtTo (fun i => reachB g (-1) i && idomP g i == m) k
/-- The state of the loop that fills the map. -/
structure KM (w : World) (g : List (List Int)) (k : Nat) (wr : World) : Prop where
  below : Below w.heap.size w wr
  box : wr.heap[w.heap.size + 1]? = some (.cells #[.map (some w.heap.size)] 107 (0, 0))
  grp : GroupsAt wr w.heap.size k (kTo g k)

theorem kTo_kidL (g : List (List Int)) (b : Int) (hb : 0 ≤ b) : kTo g g.length b = kidL (idomP g) g.length b := by
  refine filtTo_congr (fun i _ => ?_)
  cases hr : reachB g (-1) i with
  | true => rw [Bool.true_and]
  | false =>
    rw [Bool.false_and]
    symm
    rw [beq_eq_false_iff_ne]
    intro e
    rcases bestOf_range g (idomB g i) g.length with h1 | ⟨m, _, h2, h3⟩
    · have h1 : idomP g i = -1 := h1
      omega
    · simp only [idomB, domB, Bool.and_eq_true, bne_iff_ne, ne_eq, Bool.not_eq_true'] at h2
      rw [h2.2.2.1] at hr
      cases hr
theorem DV.begin (w : World) (mx : Nat) : DV w (w.heap.size + 1) w.heap.size (fvD w.heap.size mx (w.heap.size + 1)) [] ((w.alloc (.cells #[.slice none 0 0] 36)).alloc (.cells #[fvD w.heap.size mx (w.heap.size + 1)] 104)) where
  below := ((Below.refl _ _).alloc (Nat.le_refl _) _).alloc (by simp) _
  v := heap_alloc2_new w _ _
  o := ⟨none, 0, heap_alloc2_old w _ _, World.ownsRow_nil _ _ _ _⟩
  lo := ⟨by omega, by omega⟩

/-- What a round of the loop leaves: the append and the store. -/
theorem KM.put {w w4 w5 : World} {g : List (List Int)} {k : Nat} {x : Int} (hg : g.length ≤ 1048576) (hk : k < g.length) (hS : ∀ m, filtTo (fun i => reachB g (-1) i && idomP g i == m) (k + 1) = if (x == m) = true then kTo g k m ++ [(k : Int)] else kTo g k m)
    (hb : Below w.heap.size w w4) (hbox : w4.heap[w.heap.size + 1]? = some (.cells #[.map (some w.heap.size)] 107 (0, 0)))
    {va a5 : Option Addr} {vc c5 : Nat} (hoi : w4.ownsInts (w.heap.size + 1) 3 .i64 (.slice va (kTo g k x).length vc) (kTo g k x)) (hl : (kTo g k x).length ≤ k) (hback : BackAt w4 w.heap.size k (kTo g k) x (.slice va (kTo g k x).length vc)) (o : Obj)
    (hown : w5.ownsRow (w.heap.size + 1) 3 1 (.slice a5 ((kTo g k x).length + 1) c5) ((kTo g k x).length + 1) ((kTo g k x).map (Value.int .i64) ++ [(k : Int)].map (Value.int .i64))) (hg5 : (w4.alloc o).drew.grownBy w5 (Value.slice va (kTo g k x).length vc).ownBlock)
    (hlies : (Value.slice a5 ((kTo g k x).length + 1) c5).ownBlock = (Value.slice va (kTo g k x).length vc).ownBlock ∨ (Value.slice a5 ((kTo g k x).length + 1) c5).ownBlock = some (w4.alloc o).drew.heap.size) :
    w5.cell? ⟨w.heap.size + 1, 0, none⟩ = some (.map (some w.heap.size)) ∧ ∃ w2, (Instr.mapUpdate 107 (.map (some w.heap.size)) (.int .i64 x) (.slice a5 ((kTo g k x).length + 1) c5)).run Try.prog w5 = .ok () w2 ∧ Hid (KM w g (k + 1) w2) := by
  have hg4 : w4.grownBy w5 (Value.slice va (kTo g k x).length vc).ownBlock := (World.grownBy_alloc w4 o _).trans ⟨hg5.os, hg5.tape, hg5.output, hg5.size, hg5.block⟩
  have hbox5 : w5.heap[w.heap.size + 1]? = some (.cells #[.map (some w.heap.size)] 107 (0, 0)) :=
    (hg4.block _ (Array.getElem?_eq_some_iff.1 hbox).1 (fun e => by
      obtain ⟨cur, hc⟩ := own_type hoi.1 e.symm
      rw [hbox] at hc
      simp at hc)).trans hbox
  have happ := hoi.appended (x := (k : Int)) hown (WalkArith.wf_i64 (by omega))
  obtain ⟨w2, r1, r2, r3⟩ := hback w5 _ _ hg4 happ (by simp; omega) (by simp) (hlies.imp id (fun h => ⟨_, h, by simp⟩))
  have hs := hb.size
  have hlt := (Array.getElem?_eq_some_iff.1 hbox).1
  refine ⟨cell_of_row _ _ 0 _ _ _ hbox5, w2, r1, Lib.hid ⟨?_, (r3.block _ (by have := hg4.size; omega) (by simp)).trans hbox5, r2.mono (Nat.le_refl _) (fun m => ?_)⟩⟩
  · exact (hb.grown hg4 hs (fun j hj => by have := (hoi.1.lt j hj).1; omega)).grown r3 (by have := hg4.size; omega) (fun j hj => by cases hj; exact Nat.le_refl _)
  · show (if m = x then _ else _) = filtTo _ (k + 1)
    rw [hS m]
    by_cases hm : m = x
    · subst hm; simp
    · rw [if_neg hm, if_neg (by simpa using fun e => hm e.symm)]

set_option maxRecDepth 100000 in
set_option maxHeartbeats 4000000 in
theorem order_any (p r : Int) (ba : Option Addr) (bc : Nat) (g : List (List Int)) (hf : Fits g) (db : Nat) (oa : Option Addr) (oc sb : Nat) (w : World) (hD : DomsAt w p r ba bc g db oa oc sb) (hlen : g.length ≤ 1048576) :
    Calls Try.prog 72 #[.pointer (some ⟨db, 0, none⟩)] w fun e w' => RetInts w (downOf g) (downOf g).length e w' := by
  have hmf : ∀ (fn : Fn) (first cap : Array Value) (w : World), (Instr.makeFunc fn first cap).run Try.prog w = .ok (.func fn first cap) w := fun _ _ _ _ => rfl
  have hmm := @run_makeMap Try.prog
  have hd2 : w.cell? ⟨db, 4, none⟩ = some (.slice (some ⟨sb, 0, none⟩) g.length g.length) := cell_of_row _ _ 4 _ _ _ hD.blk
  have hdl : db < w.heap.size := (Array.getElem?_eq_some_iff.1 hD.blk).1
  have HD := Lib.hid hD
  clear hD
  go_enter Try.func72, Try.ntmps72
  go_wp2
  go_loopg [14] g.length (fun F i wr => ∃ k : Nat, k + F = g.length ∧ i = .int .i64 k ∧ Hid (KM w g k wr))
  case atStart =>
    refine ⟨0, by omega, rfl, Lib.hid ⟨((Below.refl _ _).alloc (Nat.le_refl _) _).alloc (by simp) _, ?_, ?_⟩⟩
    · exact (MapKept.heap_alloc (w.alloc (.map #[] 0)) _).1.symm ▸ (by simp)
    · exact ((GroupsAt.made w).later ((Below.refl _ _).alloc (Nat.le_refl _) _)).mono (Nat.le_refl _) (fun m => rfl)
  case round =>
    obtain ⟨k, hk, rfl, HK⟩ := hrel
    by_cases hlt : k < g.length
    · have hDr := HD.out.later HK.out.below
      have hd4 : wr.cell? ⟨db, 4, none⟩ = some (.slice (some ⟨sb, 0, none⟩) g.length g.length) := cell_of_row _ _ 4 _ _ _ hDr.blk
      obtain ⟨b1, o1, vi, hab, hvi, hci⟩ := hDr.inn.place hlt
      rw [reachRow_get hlt] at hvi
      cases hvi
      cases hab
      rw [Nat.zero_add] at hci
      have HSU := Lib.hid (fun m => filtTo_succ (fun i => reachB g (-1) i && idomP g i == m) k)
      clear hd2
      generalize reachB g (-1) k = vi at hci HSU
      cases vi with
      | false =>
        clear hDr
        go_wp2
        go_roundg (gk - 1)
        case measure => omega
        case rel => exact ⟨k + 1, by omega, by go_num, Lib.hid ⟨HK.out.below, HK.out.box, HK.out.grp.mono (by omega) (fun m => by unfold kTo; rw [HSU.out m, if_neg (by simp)])⟩⟩
      | true =>
        go_wp2_with fail
        refine (idom_any p r ba bc g db oa oc sb k hlt wr hDr hlen).mono ?_
        have hrng : -1 ≤ idomP g k ∧ idomP g k < g.length := by
          rcases bestOf_range g (idomB g k) g.length with h1 | ⟨m, h1, _, h2⟩
          · have h1 : idomP g k = -1 := h1
            omega
          · have h2 : idomP g k = (m : Int) := h2
            omega
        generalize idomP g k = x at HSU hrng
        rintro e w4 ⟨rfl, hb4⟩
        have hwf : (Lit.int .i64 x).wf = true := WalkArith.wf_i64 (by omega)
        have HB4 := Lib.hid (HK.out.below.trans (hb4.mono HK.out.below.size))
        have hs4 := HB4.out.size
        have hbox4 := (hb4.block _ (Array.getElem?_eq_some_iff.1 HK.out.box).1).trans HK.out.box
        have hbc4 : w4.cell? ⟨w.heap.size + 1, 0, none⟩ = some (.map (some w.heap.size)) := cell_of_row _ _ 0 _ _ _ hbox4
        have hlt4 : w.heap.size + 1 < w4.heap.size := (Array.getElem?_eq_some_iff.1 hbox4).1
        have HG4 := Lib.hid (And.intro (HK.out.grp.later hb4) (And.intro hbox4 hwf))
        obtain ⟨va, vc, hlk0, hoi, hll, hback, _⟩ := HG4.out.1.look (by omega) hwf
        have hlk1 : (Instr.lookup 107 (.map (some w.heap.size)) (.int .i64 x) false).run Try.prog w4.drew = .ok (.slice va (kTo g k x).length vc) w4.drew := HG4.out.1.lookSame (W := w4.drew) hwf rfl hlk0
        have hlk2 : ∀ o, (Instr.lookup 107 (.map (some w.heap.size)) (.int .i64 x) false).run Try.prog (w4.alloc o).drew = .ok (.slice va (kTo g k x).length vc) (w4.alloc o).drew := fun o => HG4.out.1.lookSame (W := (w4.alloc o).drew) hwf (heap_alloc_old w4 o (by omega)) hlk0
        have HOI := Lib.hid (And.intro hoi hback)
        clear hDr hb4 hd4 hci HK hbox4 hwf hrng hlk0 hoi hback
        go_wp2_with fail
        go_region_law (refine step_app_ints rfl (.tmp 31) (.tmp 33) rfl (w.heap.size + 1) _ (kTo g k x).length _ rfl (HOI.out.1.1.alloc _).drew _ 1 _ [(k : Int)] rfl rfl (RowAt.drew (rowAt_one _ _ _)) (by rintro ⟨⟩) (by omega) (by simp; omega) ?_; intro a5 c5 w5 hown5 hg5 hlies5; (obtain ⟨hbc5, w2, hrun5, hK5⟩ := KM.put hlen hlt (fun m => HSU.out m) HB4.out HG4.out.2.1 HOI.out.1 hll HOI.out.2 _ hown5 hg5 hlies5); clear hown5 hg5 hlies5)
        all_goals
          go_wp2
          go_roundg (gk - 1)
          case measure => omega
          case rel => exact ⟨k + 1, by omega, by go_num, hK5⟩
    · have hke : k = g.length := by omega
      subst hke
      clear hd2
      have hsw := HK.out.below.size
      have hKs := (Array.getElem?_eq_some_iff.1 HK.out.box).1
      have hsf : (store ⟨wr.heap.size + 1, 0, none⟩ (fvD wr.heap.size (w.heap.size + 1) (wr.heap.size + 1))).run Try.prog ((wr.alloc (.cells #[.slice none 0 0] 36)).alloc (.cells #[.nilFunc] 104)) = .ok () ((wr.alloc (.cells #[.slice none 0 0] 36)).alloc (.cells #[fvD wr.heap.size (w.heap.size + 1) (wr.heap.size + 1)] 104)) := run_store_new _ _ _ _ _ (by rw [World.size_alloc]) rfl
      have hV0 := DV.begin wr (w.heap.size + 1)
      have HV0 := Lib.hid hV0
      clear hV0
      unfold fvD at hsf
      have hen : ∀ v W, (callFunc 103 (#[v] ++ #[.pointer (some ⟨wr.heap.size, 0, none⟩), .pointer (some ⟨w.heap.size + 1, 0, none⟩), .pointer (some ⟨wr.heap.size + 1, 0, none⟩)])).run Try.prog W = .ok (.enter 103 (#[v] ++ #[.pointer (some ⟨wr.heap.size, 0, none⟩), .pointer (some ⟨w.heap.size + 1, 0, none⟩), .pointer (some ⟨wr.heap.size + 1, 0, none⟩)])) W := fun _ _ => rfl
      have hcall := order1_any (idomP g) g.length hlen wr (w.heap.size + 1) w.heap.size (cell_of_row _ _ 0 _ _ _ HK.out.box) (kTo g g.length) HK.out.grp (fun b hb => kTo_kidL g b hb) (wr.heap.size + 1) wr.heap.size (deepOf g) 0 [] _ HV0.out (deepOf_spec hf) ⟨Int.le_refl 0, by decide⟩ (by have := downOf_len hf; show ([] : List Int).length + (downOf g).length ≤ 1048576; simp; omega)
      have HC := Lib.hid hcall
      clear hcall
      go_wp2_with fail
      refine HC.out.mono ?_
      rintro e w2 ⟨rfl, hv⟩
      obtain ⟨oa2, oc2, hx, hown⟩ := hv.o
      rw [List.nil_append] at hx hown
      have hx2 : w2.cell? ⟨wr.heap.size, 0, none⟩ = some (.slice oa2 (downOf g).length oc2) := cell_of_row _ _ 0 _ _ _ hx
      have HO := Lib.hid (And.intro (show w2.ownsRow wr.heap.size 3 1 (.slice oa2 (downOf g).length oc2) (downOf g).length ((downOf g).map (Value.int .i64)) from hown) hv.below)
      clear hv hx hown
      go_wp2
      go_ret
      exact ⟨_, _, rfl, own_lower HO.out.1 (fun k hk => by have := (HO.out.1.lt k hk).1; omega), HK.out.below.trans (HO.out.2.mono hsw)⟩

end Go.Proofs.Ytclihjgojmfjiaa
