/-
  How many blocks dominate a block: the reference's answer and the program's.
-/
import Derived.Test.YtajnldkempeheaaImplG
import Derived.Deep.LoopGhost
import Derived.Deep.DeepCutAuto
import Derived.Test.YtajnldkempeheaaBase

namespace Go.Proofs.Ytajnldkempeheaa
open Go.RowKit

theorem int_val {a b : Int} (h : a = b) : Value.int .i64 a = .int .i64 b := by rw [h]

end Go.Proofs.Ytajnldkempeheaa

/-
  The deepest block of which something holds: the program's search, and the reference's; the answers of MeetOf.
-/
namespace Go.Proofs.Ytajnldkempeheaa
open Go.RowKit

/-! ### MeetOf -/
end Go.Proofs.Ytajnldkempeheaa

/-
  The answers of MeetOf: the reference's and the program's.
-/
namespace Go.Proofs.Ytajnldkempeheaa
open Go.RowKit

end Go.Proofs.Ytajnldkempeheaa

/-
  The nearest dominators: the reference's list and the program's.
-/
namespace Go.Proofs.Ytajnldkempeheaa
open Go.RowKit

/-! ### the program -/
end Go.Proofs.Ytajnldkempeheaa

/-
  The blocks of which a block is the nearest dominator: the reference's list and the program's.
-/
namespace Go.Proofs.Ytajnldkempeheaa
open Go.RowKit

/-- The numbers below k of which p holds. -/
def filtTo (p : Nat → Bool) (k : Nat) : List Int := ((List.range k).filter p).map (fun i : Nat => (i : Int))
theorem filtTo_succ (p : Nat → Bool) (k : Nat) : filtTo p (k + 1) = if p k then filtTo p k ++ [(k : Int)] else filtTo p k := by
  unfold filtTo
  rw [List.range_succ, List.filter_append]
  by_cases h : p k = true
  · simp [h]
  · simp [h]
theorem filtTo_len (p : Nat → Bool) (k : Nat) : (filtTo p k).length ≤ k := by
  unfold filtTo
  rw [List.length_map]
  have := List.length_filter_le p (List.range k)
  simpa using this
/-- The state of a loop that gathers numbers. -/
structure Gath (w : World) (xs : List Int) (oa : Option Addr) (on oc : Nat) (wr : World) : Prop where
  row : wr.ownsRow w.heap.size 3 1 (.slice oa on oc) on (xs.map (Value.int .i64))
  below : Below w.heap.size w wr
theorem Gath.len {w wr : World} {xs : List Int} {oa : Option Addr} {on oc : Nat} (h : Gath w xs oa on oc wr) : on = xs.length := by have := h.row.1; simp at this; omega
theorem Gath.later {w wr w' : World} {xs : List Int} {oa : Option Addr} {on oc : Nat} (h : Gath w xs oa on oc wr) (hb : Below wr.heap.size wr w') : Gath w xs oa on oc w' := ⟨ownsRow_below h.row hb, h.below.trans (hb.mono h.below.size)⟩
theorem Gath.start (w : World) : Gath w [] (some ⟨w.heap.size, 0, none⟩) 0 0 (w.alloc (.cells #[] 3)) := ⟨own_empty _ _ _ _ (Nat.le_refl _), (Below.refl _ _).alloc (Nat.le_refl _) _⟩
theorem Gath.nil (w : World) : Gath w [] none 0 0 w := ⟨World.ownsRow_nil _ _ _ _, Below.refl _ _⟩
theorem Gath.push {w wr w' : World} {xs : List Int} {oa a' : Option Addr} {on oc c' : Nat} {v : Int} (h : Gath w xs oa on oc wr) (hr : w'.ownsRow w.heap.size 3 1 (.slice a' (on + 1) c') (on + 1) (xs.map (Value.int .i64) ++ [v].map (Value.int .i64))) (hg : (wr.alloc (.cells #[.int .i64 v] 3)).grownBy w' (Value.slice oa on oc).ownBlock) : Gath w (xs ++ [v]) a' (on + 1) c' w' :=
  ⟨by rw [List.map_append]; exact hr, (h.below.alloc h.below.size _).grown hg (by have := h.below.size; simp; omega) (fun k hk => (h.row.lt k hk).1)⟩
theorem Gath.ret {w wr : World} {xs : List Int} {oa : Option Addr} {on oc : Nat} (h : Gath w xs oa on oc wr) : RetInts w xs xs.length (.returned (.slice oa on oc)) wr := by
  have := h.len
  subst this
  exact ⟨_, _, rfl, h.row, h.below⟩

end Go.Proofs.Ytajnldkempeheaa

/-
  The blocks that lead to a block: the reference's list and the program's.
-/
namespace Go.Proofs.Ytajnldkempeheaa
open Go.RowKit

def predB (g : List (List Int)) (b : Int) (i : Nat) : Bool := decide (b ∈ g.getD i [])
def preds (g : List (List Int)) (b : Int) : List Int := filtTo (predB g b) g.length
theorem preds_len (g : List (List Int)) (b : Int) : (preds g b).length ≤ g.length := filtTo_len _ _
/-- The same as Gath, and the block of the code stands. -/
structure GathC (C : Array Value) (w : World) (xs : List Int) (oa : Option Addr) (on oc : Nat) (wr : World) : Prop where
  g : Gath w xs oa on oc wr
  cblk : wr.heap[w.heap.size]? = some (.cells C 37 (0, 0))
theorem GathC.lt {C : Array Value} {w wr : World} {xs : List Int} {oa : Option Addr} {on oc : Nat} (h : GathC C w xs oa on oc wr) : w.heap.size < wr.heap.size := (Array.getElem?_eq_some_iff.1 h.cblk).1
theorem GathC.later {C : Array Value} {w wr w' : World} {xs : List Int} {oa : Option Addr} {on oc : Nat} (h : GathC C w xs oa on oc wr) (hb : Below wr.heap.size wr w') : GathC C w xs oa on oc w' := ⟨h.g.later hb, (hb.block _ h.lt).trans h.cblk⟩
theorem GathC.start (C : Array Value) (w : World) : GathC C w [] (some ⟨w.heap.size + 1, 0, none⟩) 0 0 ((w.alloc (.cells C 37)).alloc (.cells #[] 3)) := by
  refine ⟨⟨?_, ((Below.refl _ _).alloc (Nat.le_refl _) _).alloc (by simp) _⟩, heap_alloc2_old w _ _⟩
  have := own_empty (w.alloc (.cells C 37)) w.heap.size 3 1 (by simp)
  rwa [World.size_alloc] at this
theorem GathC.nil (C : Array Value) (w : World) : GathC C w [] none 0 0 (w.alloc (.cells C 37)) := ⟨⟨World.ownsRow_nil _ _ _ _, (Below.refl _ _).alloc (Nat.le_refl _) _⟩, heap_alloc_new w _⟩
theorem GathC.push {C : Array Value} {w wr w' : World} {xs : List Int} {oa a' : Option Addr} {on oc c' : Nat} {v : Int} (h : GathC C w xs oa on oc wr) (hr : w'.ownsRow w.heap.size 3 1 (.slice a' (on + 1) c') (on + 1) (xs.map (Value.int .i64) ++ [v].map (Value.int .i64))) (hg : (wr.alloc (.cells #[.int .i64 v] 3)).grownBy w' (Value.slice oa on oc).ownBlock) : GathC C w (xs ++ [v]) a' (on + 1) c' w' := by
  refine ⟨h.g.push hr hg, ?_⟩
  rw [hg.block _ (by have := h.lt; simp; omega) (fun e => by
    obtain ⟨cur, hc⟩ := own_type h.g.row e.symm
    rw [h.cblk] at hc
    simp at hc), heap_alloc_old wr _ h.lt]
  exact h.cblk

set_option maxRecDepth 100000 in
set_option maxHeartbeats 2000000 in
theorem l7Preds_any (p r : Int) (ba : Option Addr) (bc : Nat) (g : List (List Int)) (b : Int) (w : World) (hg : Gr w ba g) :
    Calls Try.prog 38 #[.agg #[.int .i64 p, .int .i64 r, .slice ba g.length bc], .int .i64 b] w fun e w' => RetInts w (preds g b) (preds g b).length e w' := by
  have HG0 := Lib.hid (GathC.start #[.int .i64 p, .int .i64 r, .slice ba g.length bc] w)
  have hlen := hg.len
  go_enter Try.func38, Try.ntmps38
  go_wp2
  go_loopg [5, 6] g.length (fun F o i wr => ∃ k : Nat, k + F = g.length ∧ i = .int .i64 k ∧ ∃ oa on oc, o = .slice oa on oc ∧ Hid (GathC #[.int .i64 p, .int .i64 r, .slice ba g.length bc] w (filtTo (predB g b) k) oa on oc wr))
  case atStart => exact ⟨0, by omega, rfl, _, _, _, rfl, HG0⟩
  case round =>
    obtain ⟨k, hk, rfl, oa, on, oc, rfl, HG⟩ := hrel
    clear HG0
    have hk2 : wr.cell? ⟨w.heap.size, 2, none⟩ = some (.slice ba g.length bc) := cell_of_row _ _ 2 _ _ _ HG.out.cblk
    by_cases hlt : k < g.length
    · obtain ⟨bb, boff, l, na, nc, rfl, hl, hc4, hi⟩ := (hg.later HG.out.g.below).place hlt
      have hll := hg.row hl
      have hon : on ≤ 1048576 := by have := HG.out.g.len; have := filtTo_len (predB g b) k; omega
      have hszw := HG.out.g.below.size
      have HSU := Lib.hid (filtTo_succ (predB g b) k)
      have HL := Lib.hid (show predB g b k = decide (b ∈ l) by rw [predB, List.getD_eq_getElem?_getD, hl]; rfl)
      clear hl
      go_wp2
      go_loopg [5, 7] l.length (fun F o i wq => ∃ j : Nat, j + F = l.length ∧ i = .int .i64 j ∧ o = .slice oa on oc ∧ wq = wr ∧ Hid (∀ x ∈ l.take j, ¬ x = b))
      case atStart => exact ⟨0, by omega, rfl, rfl, rfl, Lib.hid (by simp)⟩
      case round =>
        obtain ⟨j, hj, rfl, rfl, rfl, HN⟩ := hrel
        by_cases hlt2 : j < l.length
        · obtain ⟨q1, o1, x, rfl, hx, hcx⟩ := hi.place hlt2
          have HX := Lib.hid hx
          clear hx
          by_cases hxb : x = b
          · have heq : (x == b) = true := by simpa using hxb
            have HP := Lib.hid (show predB g b k = true by rw [HL.out]; exact decide_eq_true (hxb ▸ List.mem_of_getElem? HX.out))
            clear hxb
            go_wp2_with (at_builtin; refine app_ints rfl (.tmp 38) (.tmp 40) rfl w.heap.size _ on _ rfl (HG.out.g.row.alloc _) _ 1 _ [(k : Int)] rfl rfl (rowAt_one _ _ _) (by rintro ⟨⟩) (by omega) (by simp; omega) ?_; intro a5 c5 w5 hown5 hg5 hlies5)
            have HN2 := Lib.hid (HG.out.push hown5 hg5)
            clear hown5 hg5 hlies5
            go_roundg (g.length - (k + 1))
            case measure => omega
            case rel => exact ⟨k + 1, by omega, by go_num, a5, _, c5, rfl, Lib.hid (by rw [HSU.out, if_pos HP.out]; exact HN2.out)⟩
          · have heq : (x == b) = false := by simpa using hxb
            have HXB := Lib.hid hxb
            clear hxb
            go_wp2
            go_roundg (gk - 1)
            case measure => omega
            case rel => exact ⟨j + 1, by omega, by go_num, rfl, rfl, Lib.hid (by
              intro y hy
              rw [take_succ_of HX.out] at hy
              rcases List.mem_append.1 hy with h | h
              · exact HN.out y h
              · simp at h; subst h; exact HXB.out)⟩
        · obtain rfl : j = l.length := by omega
          have HP := Lib.hid (show ¬ predB g b k = true by
            rw [HL.out]
            have h := HN.out
            rw [List.take_length] at h
            simp only [decide_eq_true_eq]
            exact fun hm => h b hm rfl)
          go_wp2
          go_roundg (g.length - (k + 1))
          case measure => omega
          case rel => exact ⟨k + 1, by omega, by go_num, _, _, _, rfl, Lib.hid (by rw [HSU.out, if_neg HP.out]; exact HG.out)⟩
    · obtain rfl : k = g.length := by omega
      go_wp2
      go_ret
      exact HG.out.g.ret

set_option maxRecDepth 100000 in
set_option maxHeartbeats 2000000 in
theorem predsOf_any (p r : Int) (ba : Option Addr) (bc : Nat) (g : List (List Int)) (b : Int) (hb : okN g.length b = true) (w : World) (hg : Gr w ba g) :
    Calls Try.prog 47 #[.agg #[.int .i64 p, .int .i64 r, .slice ba g.length bc], .int .i64 b] w fun e w' => RetInts w (preds g b) (preds g b).length e w' := by
  have HG0 := Lib.hid (GathC.nil #[.int .i64 p, .int .i64 r, .slice ba g.length bc] w)
  have hlen := hg.len
  have hk2 : (w.alloc (.cells #[.int .i64 p, .int .i64 r, .slice ba g.length bc] 37)).cell? ⟨w.heap.size, 2, none⟩ = some (.slice ba g.length bc) := cell_of_row _ _ 2 _ _ _ (heap_alloc_new w _)
  have d0 : (decide ((0 : Int) ≤ b) && decide (b ≤ (g.length : Int) - 1)) = true := hb
  go_enter Try.func47, Try.ntmps47
  go_wp2_with fail
  refine (within_any b 0 ((g.length : Int) - 1) _).mono ?_
  rw [d0]
  rintro e w1 ⟨rfl, rfl⟩
  clear d0 hb
  go_wp2
  clear hk2
  go_loopg [5, 18] g.length (fun F o i wr => ∃ k : Nat, k + F = g.length ∧ i = .int .i64 k ∧ ∃ oa on oc, o = .slice oa on oc ∧ Hid (GathC #[.int .i64 p, .int .i64 r, .slice ba g.length bc] w (filtTo (predB g b) k) oa on oc wr))
  case atStart => exact ⟨0, by omega, rfl, _, _, _, rfl, HG0⟩
  case round =>
    obtain ⟨k, hk, rfl, oa, on, oc, rfl, HG⟩ := hrel
    clear HG0
    by_cases hlt : k < g.length
    · have hgr := hg.later HG.out.g.below
      obtain ⟨_, bs, hrd, hgb⟩ := hgr
      obtain ⟨b0, off, phis, ins, jump, jon, nx, pa, pc, ia, ic, na, nc, rfl, hx, c0, c1, c2, c3, c4, hR⟩ := block_place hrd (i := k) (by rw [hgb] at hlt; simpa using hlt)
      have hl : g[k]? = some nx := by rw [hgb, List.getElem?_map, hx]; rfl
      have hll := hg.row hl
      have hrdn : IntsRd wr na nx.length nx := by
        obtain ⟨_, _, _, _, _, _, hcs, _, _, _, h⟩ := hR
        simp only [List.cons.injEq, Value.slice.injEq, and_true, true_and] at hcs
        obtain ⟨_, _, rfl, rfl⟩ := hcs
        exact h
      have hon : on ≤ 1048576 := by have := HG.out.g.len; have := filtTo_len (predB g b) k; omega
      have hszw := HG.out.g.below.size
      have HSU := Lib.hid (filtTo_succ (predB g b) k)
      have HL := Lib.hid (show predB g b k = decide (b ∈ nx) by rw [predB, List.getD_eq_getElem?_getD, hl]; rfl)
      have hba : Below wr.heap.size wr (wr.alloc (.cells #[.slice pa phis.length pc, .slice ia ins.length ic, .int .i64 jump, .int .i64 jon, .slice na nx.length nc] 41)) := (Below.refl _ _).alloc (Nat.le_refl _) _
      have HGA := Lib.hid (HG.out.later hba)
      have hrdn' := hrdn.later hba
      clear hl hR hx hrd hgb hrdn
      go_wp2_with fail
      generalize wr.alloc (.cells #[.slice pa phis.length pc, .slice ia ins.length ic, .int .i64 jump, .int .i64 jon, .slice na nx.length nc] 41) = wa at HGA hrdn' hba ⊢
      refine (contains_any na nx.length nc nx b wa hrdn' (by omega)).mono ?_
      rw [← HL.out]
      rintro e w2 ⟨rfl, rfl⟩
      have hsza := hba.size
      generalize predB g b k = v at HSU
      clear hba hrdn' HL HG
      cases v with
      | true =>
        go_wp2_with (at_builtin; refine app_ints rfl (.tmp 27) (.tmp 29) rfl w.heap.size _ on _ rfl (HGA.out.g.row.alloc _) _ 1 _ [(k : Int)] rfl rfl (rowAt_one _ _ _) (by rintro ⟨⟩) (by omega) (by simp; omega) ?_; intro a5 c5 w5 hown5 hg5 hlies5)
        have HN2 := Lib.hid (HGA.out.push hown5 hg5)
        clear hown5 hg5 hlies5
        go_roundg (gk - 1)
        case measure => omega
        case rel => exact ⟨k + 1, by omega, by go_num, a5, _, c5, rfl, Lib.hid (by have h := HSU.out; simp at h; rw [h]; exact HN2.out)⟩
      | false =>
        go_wp2
        go_roundg (gk - 1)
        case measure => omega
        case rel => exact ⟨k + 1, by omega, by go_num, _, _, _, rfl, Lib.hid (by have h := HSU.out; simp at h; rw [h]; exact HGA.out)⟩
    · obtain rfl : k = g.length := by omega
      go_wp2
      go_ret
      exact HG.out.g.ret

end Go.Proofs.Ytajnldkempeheaa
