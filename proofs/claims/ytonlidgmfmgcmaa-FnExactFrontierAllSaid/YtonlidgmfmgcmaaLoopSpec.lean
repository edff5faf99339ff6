
/-
  The body of a loop, the reference's walk.
-/
import Derived.Test.YtonlidgmfmgcmaaLoop
import Derived.Test.YtonlidgmfmgcmaaQue
import Derived.Test.YtonlidgmfmgcmaaSortedO
import Derived.Deep.DeepCutAuto
namespace Go.Proofs.Ytonlidgmfmgcmaa
open Go.RowKit

theorem own_beside {w w' : World} {base gw n : Nat} {v : Value} {xs : List Value} (h : w.ownsRow base 3 1 v n xs) (hg : w.grownBy w' (some gw)) (hne : ∀ k, v.ownBlock = some k → k ≠ gw) : w'.ownsRow base 3 1 v n xs :=
  own_turned h (turned_of_grown hg (S := fun k => k = gw) (fun k hk => by cases hk; rfl)) (fun k hk e => hne k hk e)
/-- The state of the reference's loop: the blocks found, and what is to be done. -/
structure LS (w : World) (C : Array Value) (oa : Option Addr) (oc : Nat) (out : List Int) (gw ow cw : Nat) (work : List Int) (wr : World) : Prop where
  below : Below w.heap.size w wr
  code : wr.heap[w.heap.size]? = some (.cells C 30 (0, 0))
  res : wr.ownsRow w.heap.size 3 1 (.slice oa out.length oc) out.length (out.map (Value.int .i64))
  que : QueAt wr w.heap.size (some ⟨gw, ow, none⟩) work.length cw work
  apart : ∀ k, (Value.slice oa out.length oc).ownBlock = some k → k ≠ gw
theorem LS.later {w : World} {C : Array Value} {oa : Option Addr} {oc : Nat} {out : List Int} {gw ow cw : Nat} {work : List Int} {wr w' : World} (h : LS w C oa oc out gw ow cw work wr) (hb : Below wr.heap.size wr w') : LS w C oa oc out gw ow cw work w' :=
  ⟨h.below.trans (hb.mono h.below.size), (hb.block _ (Array.getElem?_eq_some_iff.1 h.code).1).trans h.code, ownsRow_below h.res hb, h.que.later hb, h.apart⟩
theorem LS.lt {w : World} {C : Array Value} {oa : Option Addr} {oc : Nat} {out : List Int} {gw ow cw : Nat} {work : List Int} {wr : World} (h : LS w C oa oc out gw ow cw work wr) : gw < wr.heap.size := by
  obtain ⟨_, _, _, g, off, cur, e, _, hg, _⟩ := h.que
  cases e
  exact (Array.getElem?_eq_some_iff.1 hg).1
theorem LS.push {w : World} {C : Array Value} {oa : Option Addr} {oc : Nat} {out : List Int} {gw ow cw : Nat} {work ys : List Int} {wr w' : World} {g' o' c' m : Nat} (h : LS w C oa oc out gw ow cw work wr) (hm : ys.length = m)
    (hq : QueAt w' w.heap.size (some ⟨g', o', none⟩) (work.length + m) c' (work ++ ys)) (hg : wr.grownBy w' (some gw)) (hgg : g' = gw ∨ wr.heap.size ≤ g') : LS w C oa oc out g' o' c' (work ++ ys) w' := by
  have hlo : w.heap.size ≤ gw := by
    obtain ⟨_, _, _, g, off, cur, e, h1, _⟩ := h.que
    cases e; exact h1
  refine ⟨h.below.grown hg h.below.size (fun k hk => by cases hk; exact hlo), ?_, own_beside h.res hg h.apart, by rw [List.length_append, hm]; exact hq, fun k hk => ?_⟩
  · rw [hg.block _ (Array.getElem?_eq_some_iff.1 h.code).1 (fun e => ?_)]
    · exact h.code
    · cases e
      obtain ⟨_, _, _, g, off, cur, e, _, h2, _⟩ := h.que
      cases e
      have := h.code
      rw [h2] at this
      simp only [Option.some.injEq, Obj.cells.injEq] at this
      exact absurd this.2.1 (by decide)
  · have := h.apart k hk
    have h2 := (h.res.lt k hk).2
    omega
theorem LS.tail {w : World} {C : Array Value} {oa : Option Addr} {oc : Nat} {out : List Int} {gw ow cw : Nat} {x : Int} {work : List Int} {wr : World} (h : LS w C oa oc out gw ow cw (x :: work) wr) :
    LS w C oa oc out gw (if cw = 1 then ow else ow + 1) (cw - 1) work wr := by
  refine ⟨h.below, h.code, h.res, ?_, h.apart⟩
  have hq := QueAt.tail (x := x) (xs := work) (n := work.length) h.que
  by_cases hc : cw = 1
  · rw [if_pos hc] at hq ⊢; exact hq
  · rw [if_neg hc] at hq ⊢; exact hq
theorem LS.ins {w : World} {C : Array Value} {oa a' : Option Addr} {oc c' : Nat} {out ys : List Int} {gw ow cw : Nat} {work : List Int} {wr w' : World} (h : LS w C oa oc out gw ow cw work wr) (hb : Below wr.heap.size wr w')
    (hr : (ys = out ∧ a' = oa ∧ c' = oc ∧ w' = wr) ∨ w'.ownsRow wr.heap.size 3 1 (.slice a' ys.length c') ys.length (ys.map (Value.int .i64))) : LS w C a' c' ys gw ow cw work w' := by
  rcases hr with ⟨rfl, rfl, rfl, rfl⟩ | hr
  · exact h
  · have h2 := h.later hb
    have hlt := h.lt
    refine ⟨h2.below, h2.code, own_lower hr (fun k hk => Nat.le_trans h.below.size (hr.lt k hk).1), h2.que, fun k hk => ?_⟩
    have := (hr.lt k hk).1
    omega

theorem tailsTo_yes {g : List (List Int)} {h k : Nat} {x : Int} (hx : (preds g (h : Int))[k]? = some x) (hd : domB g h x.toNat = true) : tailsTo g h (k + 1) = tailsTo g h k ++ [x] := by
  unfold tailsTo
  rw [take_succ_of hx, List.filter_append]
  simp [hd]
theorem tailsTo_no {g : List (List Int)} {h k : Nat} {x : Int} (hx : (preds g (h : Int))[k]? = some x) (hd : domB g h x.toNat = false) : tailsTo g h (k + 1) = tailsTo g h k := by
  unfold tailsTo
  rw [take_succ_of hx, List.filter_append]
  simp [hd]
theorem tailsTo_len (g : List (List Int)) (h k : Nat) : (tailsTo g h k).length ≤ g.length := by
  unfold tailsTo
  have h1 := List.length_filter_le (fun p => domB g h p.toNat) ((preds g (h : Int)).take k)
  have h2 := preds_len g (h : Int)
  rw [List.length_take] at h1
  omega
theorem domB_self {g : List (List Int)} {b : Nat} : domB g b b = reachB g (-1) b := by
  have : reachB g (b : Int) b = false := reachB_false.2 (fun h => h.ne rfl)
  rw [domB, this]
  cases reachB g (-1) b <;> rfl
/-- The same, and a row of numbers beside. -/
structure LP (w : World) (C : Array Value) (oa : Option Addr) (oc : Nat) (out : List Int) (gw ow cw : Nat) (work : List Int) (B : Nat) (pa : Option Addr) (pc : Nat) (ps : List Int) (wr : World) : Prop where
  ls : LS w C oa oc out gw ow cw work wr
  row : wr.ownsRow B 3 1 (.slice pa ps.length pc) ps.length (ps.map (Value.int .i64))
  ne : ∀ k, (Value.slice pa ps.length pc).ownBlock = some k → k ≠ gw
theorem LP.later {w : World} {C : Array Value} {oa : Option Addr} {oc : Nat} {out : List Int} {gw ow cw : Nat} {work : List Int} {B : Nat} {pa : Option Addr} {pc : Nat} {ps : List Int} {wr w' : World}
    (h : LP w C oa oc out gw ow cw work B pa pc ps wr) (hb : Below wr.heap.size wr w') : LP w C oa oc out gw ow cw work B pa pc ps w' := ⟨h.ls.later hb, ownsRow_below h.row hb, h.ne⟩
theorem LP.push {w : World} {C : Array Value} {oa : Option Addr} {oc : Nat} {out : List Int} {gw ow cw : Nat} {work ys : List Int} {B : Nat} {pa : Option Addr} {pc : Nat} {ps : List Int} {wr w' : World} {g' o' c' m : Nat}
    (h : LP w C oa oc out gw ow cw work B pa pc ps wr) (hm : ys.length = m)
    (hq : QueAt w' w.heap.size (some ⟨g', o', none⟩) (work.length + m) c' (work ++ ys)) (hg : wr.grownBy w' (some gw)) (hgg : g' = gw ∨ wr.heap.size ≤ g') : LP w C oa oc out g' o' c' (work ++ ys) B pa pc ps w' := by
  refine ⟨h.ls.push hm hq hg hgg, own_beside h.row hg h.ne, fun k hk => ?_⟩
  have h1 := h.ne k hk
  have h2 := (h.row.lt k hk).2
  omega

/-! ### LoopBody -/
noncomputable def loopP (g : List (List Int)) (h : Int) : List Int := if h ∈ headsP g then loopL g h.toNat else []
theorem headsP_mem {g : List (List Int)} {h : Int} (hm : h ∈ headsP g) : Fits g ∧ ∃ i : Nat, h = (i : Int) ∧ i < g.length ∧ headB g i = true := by
  unfold headsP at hm
  split at hm
  · rename_i hf
    obtain ⟨i, hi, hb, rfl⟩ := filtTo_mem hm
    exact ⟨fits_iff.1 hf, i, rfl, hi, hb⟩
  · simp at hm

end Go.Proofs.Ytonlidgmfmgcmaa
