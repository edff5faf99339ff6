
/-
  The body of a loop, the reference's walk.
-/
import Derived.Test.YtkhnhdgbbjppeaaLoop
import Derived.Test.YtkhnhdgbbjppeaaQue
import Derived.Test.YtkhnhdgbbjppeaaSortedO
import Derived.Deep.DeepCutAuto
namespace Go.Proofs.Ytkhnhdgbbjppeaa
open Go.RowKit

theorem own_beside {w w' : World} {base gw n : Nat} {v : Value} {xs : List Value} (h : w.ownsRow base 3 1 v n xs) (hg : w.grownBy w' (some gw)) (hne : ∀ k, v.ownBlock = some k → k ≠ gw) : w'.ownsRow base 3 1 v n xs :=
  own_turned h (turned_of_grown hg (S := fun k => k = gw) (fun k hk => by cases hk; rfl)) (fun k hk e => hne k hk e)
/-- The state of the reference's loop: the blocks found, and what is to be done. -/
structure LS (w : World) (C : Array Value) (oa : Option Addr) (oc : Nat) (out : List Int) (gw ow cw : Nat) (work : List Int) (wr : World) : Prop where
  below : Below w.heap.size w wr
  code : wr.heap[w.heap.size]? = some (.cells C 51 (0, 0))
  res : wr.ownsRow w.heap.size 3 1 (.slice oa out.length oc) out.length (out.map (Value.int .i64))
  que : QueAt wr w.heap.size (some ⟨gw, ow, none⟩) work.length cw work
  apart : ∀ k, (Value.slice oa out.length oc).ownBlock = some k → k ≠ gw
theorem LS.later {w : World} {C : Array Value} {oa : Option Addr} {oc : Nat} {out : List Int} {gw ow cw : Nat} {work : List Int} {wr w' : World} (h : LS w C oa oc out gw ow cw work wr) (hb : Below wr.heap.size wr w') : LS w C oa oc out gw ow cw work w' :=
  ⟨h.below.trans (hb.mono h.below.size), (hb.block _ (Array.getElem?_eq_some_iff.1 h.code).1).trans h.code, ownsRow_below h.res hb, h.que.later hb, h.apart⟩
theorem LS.lt {w : World} {C : Array Value} {oa : Option Addr} {oc : Nat} {out : List Int} {gw ow cw : Nat} {work : List Int} {wr : World} (h : LS w C oa oc out gw ow cw work wr) : gw < wr.heap.size := by
  obtain ⟨_, _, _, g, off, cur, e, _, hg, _⟩ := h.que
  cases e
  exact (Array.getElem?_eq_some_iff.1 hg).1
theorem LS.push {w : World} {C : Array Value} {oa : Option Addr} {oc : Nat} {out : List Int} {gw ow cw : Nat} {work ys : List Int} {wr w' : World} {g' o' c' m : Nat} (h : LS w C oa oc out gw ow cw work wr) (hm : ys.length = m)
    (hq : QueAt w' w.heap.size (some ⟨g', o', none⟩) (work.length + m) c' (work ++ ys)) (hg : wr.grownBy w' (some gw)) (hgg : g' = gw ∨ wr.heap.size ≤ g') : LS w C oa oc out g' o' c' (work ++ ys) w' := by
  have hlo : w.heap.size ≤ gw := by
    obtain ⟨_, _, _, g, off, cur, e, h1, _⟩ := h.que
    cases e; exact h1
  refine ⟨h.below.grown hg h.below.size (fun k hk => by cases hk; exact hlo), ?_, own_beside h.res hg h.apart, by rw [List.length_append, hm]; exact hq, fun k hk => ?_⟩
  · rw [hg.block _ (Array.getElem?_eq_some_iff.1 h.code).1 (fun e => ?_)]
    · exact h.code
    · cases e
      obtain ⟨_, _, _, g, off, cur, e, _, h2, _⟩ := h.que
      cases e
      have := h.code
      rw [h2] at this
      simp only [Option.some.injEq, Obj.cells.injEq] at this
      exact absurd this.2.1 (by decide)
  · have := h.apart k hk
    have h2 := (h.res.lt k hk).2
    omega
theorem LS.tail {w : World} {C : Array Value} {oa : Option Addr} {oc : Nat} {out : List Int} {gw ow cw : Nat} {x : Int} {work : List Int} {wr : World} (h : LS w C oa oc out gw ow cw (x :: work) wr) :
    LS w C oa oc out gw (if cw = 1 then ow else ow + 1) (cw - 1) work wr := by
  refine ⟨h.below, h.code, h.res, ?_, h.apart⟩
  have hq := QueAt.tail (x := x) (xs := work) (n := work.length) h.que
  by_cases hc : cw = 1
  · rw [if_pos hc] at hq ⊢; exact hq
  · rw [if_neg hc] at hq ⊢; exact hq
theorem LS.ins {w : World} {C : Array Value} {oa a' : Option Addr} {oc c' : Nat} {out ys : List Int} {gw ow cw : Nat} {work : List Int} {wr w' : World} (h : LS w C oa oc out gw ow cw work wr) (hb : Below wr.heap.size wr w')
    (hr : (ys = out ∧ a' = oa ∧ c' = oc ∧ w' = wr) ∨ w'.ownsRow wr.heap.size 3 1 (.slice a' ys.length c') ys.length (ys.map (Value.int .i64))) : LS w C a' c' ys gw ow cw work w' := by
  rcases hr with ⟨rfl, rfl, rfl, rfl⟩ | hr
  · exact h
  · have h2 := h.later hb
    have hlt := h.lt
    refine ⟨h2.below, h2.code, own_lower hr (fun k hk => Nat.le_trans h.below.size (hr.lt k hk).1), h2.que, fun k hk => ?_⟩
    have := (hr.lt k hk).1
    omega

theorem tailsTo_yes {g : List (List Int)} {h k : Nat} {x : Int} (hx : (preds g (h : Int))[k]? = some x) (hd : domB g h x.toNat = true) : tailsTo g h (k + 1) = tailsTo g h k ++ [x] := by
  unfold tailsTo
  rw [take_succ_of hx, List.filter_append]
  simp [hd]
theorem tailsTo_no {g : List (List Int)} {h k : Nat} {x : Int} (hx : (preds g (h : Int))[k]? = some x) (hd : domB g h x.toNat = false) : tailsTo g h (k + 1) = tailsTo g h k := by
  unfold tailsTo
  rw [take_succ_of hx, List.filter_append]
  simp [hd]
theorem tailsTo_len (g : List (List Int)) (h k : Nat) : (tailsTo g h k).length ≤ g.length := by
  unfold tailsTo
  have h1 := List.length_filter_le (fun p => domB g h p.toNat) ((preds g (h : Int)).take k)
  have h2 := preds_len g (h : Int)
  rw [List.length_take] at h1
  omega
theorem domB_self {g : List (List Int)} {b : Nat} : domB g b b = reachB g (-1) b := by
  have : reachB g (b : Int) b = false := reachB_false.2 (fun h => h.ne rfl)
  rw [domB, this]
  cases reachB g (-1) b <;> rfl
/-- The same, and a row of numbers beside. -/
structure LP (w : World) (C : Array Value) (oa : Option Addr) (oc : Nat) (out : List Int) (gw ow cw : Nat) (work : List Int) (B : Nat) (pa : Option Addr) (pc : Nat) (ps : List Int) (wr : World) : Prop where
  ls : LS w C oa oc out gw ow cw work wr
  row : wr.ownsRow B 3 1 (.slice pa ps.length pc) ps.length (ps.map (Value.int .i64))
  ne : ∀ k, (Value.slice pa ps.length pc).ownBlock = some k → k ≠ gw
theorem LP.later {w : World} {C : Array Value} {oa : Option Addr} {oc : Nat} {out : List Int} {gw ow cw : Nat} {work : List Int} {B : Nat} {pa : Option Addr} {pc : Nat} {ps : List Int} {wr w' : World}
    (h : LP w C oa oc out gw ow cw work B pa pc ps wr) (hb : Below wr.heap.size wr w') : LP w C oa oc out gw ow cw work B pa pc ps w' := ⟨h.ls.later hb, ownsRow_below h.row hb, h.ne⟩
theorem LP.push {w : World} {C : Array Value} {oa : Option Addr} {oc : Nat} {out : List Int} {gw ow cw : Nat} {work ys : List Int} {B : Nat} {pa : Option Addr} {pc : Nat} {ps : List Int} {wr w' : World} {g' o' c' m : Nat}
    (h : LP w C oa oc out gw ow cw work B pa pc ps wr) (hm : ys.length = m)
    (hq : QueAt w' w.heap.size (some ⟨g', o', none⟩) (work.length + m) c' (work ++ ys)) (hg : wr.grownBy w' (some gw)) (hgg : g' = gw ∨ wr.heap.size ≤ g') : LP w C oa oc out g' o' c' (work ++ ys) B pa pc ps w' := by
  refine ⟨h.ls.push hm hq hg hgg, own_beside h.row hg h.ne, fun k hk => ?_⟩
  have h1 := h.ne k hk
  have h2 := (h.row.lt k hk).2
  omega

set_option maxRecDepth 100000 in
set_option maxHeartbeats 2000000 in
theorem l17Body_any (p r : Int) (ba : Option Addr) (bc : Nat) (g : List (List Int)) (ma : Option Addr) (mc h : Nat) (hh : h < g.length) (w : World) (hg : Gr w ba g) (hM : BMat w ma g.length (domMat g)) :
    Calls Try.prog 100 #[.agg #[.int .i64 p, .int .i64 r, .slice ba g.length bc], .slice ma g.length mc, .int .i64 (h : Int)] w fun e w' => RetInts w (loopL g h) (loopL g h).length e w' := by
  have hlen := hg.len
  have HC := Lib.hid (show LS w #[.int .i64 p, .int .i64 r, .slice ba g.length bc] (some ⟨w.heap.size + 1, 0, none⟩) 1 [(h : Int)] (w.heap.size + 2) 0 0 [] (((w.alloc (.cells #[.int .i64 p, .int .i64 r, .slice ba g.length bc] 51)).alloc (.cells #[.int .i64 (h : Int)] 3)).alloc (.cells #[] 3)) from by
    have hb : Below w.heap.size w (((w.alloc (.cells #[.int .i64 p, .int .i64 r, .slice ba g.length bc] 51)).alloc (.cells #[.int .i64 (h : Int)] 3)).alloc (.cells #[] 3)) := (((Below.refl _ _).alloc (Nat.le_refl _) _).alloc (by simp) _).alloc (by simp; omega) _
    have h1 : ((w.alloc (.cells #[.int .i64 p, .int .i64 r, .slice ba g.length bc] 51)).alloc (.cells #[.int .i64 (h : Int)] 3)).ownsRow w.heap.size 3 1 (.slice (some ⟨(w.alloc (.cells #[.int .i64 p, .int .i64 r, .slice ba g.length bc] 51)).heap.size, 0, none⟩) 1 1) 1 ([(h : Int)].map (Value.int .i64)) := own_lit (w.alloc (.cells #[.int .i64 p, .int .i64 r, .slice ba g.length bc] 51)) w.heap.size [(h : Int)] (by simp) (by simp [maxLen])
    rw [World.size_alloc] at h1
    have h2 := own_empty ((w.alloc (.cells #[.int .i64 p, .int .i64 r, .slice ba g.length bc] 51)).alloc (.cells #[.int .i64 (h : Int)] 3)) w.heap.size 3 1 (by simp; omega)
    rw [World.size_alloc, World.size_alloc] at h2
    refine ⟨hb, ?_, h1.alloc _, QueAt.of_own (xs := []) h2, fun k hk => ?_⟩
    · rw [heap_alloc_old _ _ (by simp; omega)]
      exact heap_alloc2_old w _ _
    · simp [Value.ownBlock] at hk; omega)
  have HM := Lib.hid (And.intro hM hg)
  clear hM hg
  go_enter Try.func100, Try.ntmps100
  have k0 := cell_of_row _ _ 0 _ _ _ HC.out.code
  have k1 := cell_of_row _ _ 1 _ _ _ HC.out.code
  have k2 := cell_of_row _ _ 2 _ _ _ HC.out.code
  simp only [List.getElem?_toArray, List.getElem?_cons_zero, List.getElem?_cons_succ] at k0 k1 k2
  go_wp2_with fail
  generalize ((w.alloc (.cells #[.int .i64 p, .int .i64 r, .slice ba g.length bc] 51)).alloc (.cells #[.int .i64 (h : Int)] 3)).alloc (.cells #[] 3) = W0 at HC k0 k1 k2 ⊢
  refine (l7Preds_any p r ba bc g (h : Int) W0 (HM.out.2.later HC.out.below)).mono ?_
  rintro e w1 ⟨pa, pc, rfl, hown1, hb1⟩
  have hpl := preds_len g (h : Int)
  have HP := Lib.hid (show LP w #[.int .i64 p, .int .i64 r, .slice ba g.length bc] (some ⟨w.heap.size + 1, 0, none⟩) 1 [(h : Int)] (w.heap.size + 2) 0 0 (tailsTo g h 0) W0.heap.size pa pc (preds g (h : Int)) w1 from
    ⟨HC.out.later hb1, hown1, fun k hk e => by have h1 := (hown1.lt k hk).1; have := HC.out.lt; omega⟩)
  obtain ⟨B, hB⟩ : ∃ B, B = W0.heap.size := ⟨_, rfl⟩
  rw [← hB] at HP
  have ht0 : (tailsTo g h 0).length = 0 := rfl
  clear hown1 hb1 k0 k1 k2 HC hB
  go_wp2_with fail
  go_loopg [8, 10] (preds g (h : Int)).length (fun F o i wr => ∃ k : Nat, k + F = (preds g (h : Int)).length ∧ i = .int .i64 k ∧ ∃ gw ow cw, o = .slice (some ⟨gw, ow, none⟩) (tailsTo g h k).length cw ∧ Hid (LP w #[.int .i64 p, .int .i64 r, .slice ba g.length bc] (some ⟨w.heap.size + 1, 0, none⟩) 1 [(h : Int)] gw ow cw (tailsTo g h k) B pa pc (preds g (h : Int)) wr))
  case atStart => exact ⟨0, by omega, rfl, _, _, _, by rw [ht0], HP⟩
  case round =>
    obtain ⟨k, hk, rfl, gw, ow, cw, rfl, HK⟩ := hrel
    clear HP
    by_cases hlt : k < (preds g (h : Int)).length
    · obtain ⟨b1, o1, x, rfl, hx, hc⟩ := (ints_of_own HK.out.row).toIntsRd.place hlt
      obtain ⟨y, hy, rfl⟩ := preds_mem (List.mem_of_getElem? hx)
      obtain ⟨b2, o2, rb, ro, rc, rfl, c1, c2⟩ := BMat.cell (HM.out.1.later bRowR_lasts HK.out.ls.below) hh hy
      have htl := tailsTo_len g h k
      have hsz := HK.out.ls.below.size
      have hyi : (y : Int) < (g.length : Int) := by omega
      have hhi : (h : Int) < (g.length : Int) := by omega
      have hki : (k : Int) < ((preds g (h : Int)).length : Int) := by omega
      cases hd : domB g h y with
      | true =>
        have HN := Lib.hid (And.intro (tailsTo_yes hx (by rw [Int.toNat_natCast]; exact hd)) hx)
        rw [hd] at c2
        clear hx hd
        go_wp2_with fail
        go_quiet (fail)
        have HK2 := Lib.hid (HK.out.later (below_drewN (Below.refl _ _) nq))
        clear hc c1 c2 HK
        generalize wr.drewN nq = wn at HK2 ⊢
        have hc := (ints_of_own HK2.out.row).toIntsRd.cell HN.out.2
        have HKA := Lib.hid (HK2.out.later ((Below.refl wn.heap.size wn).alloc (Nat.le_refl _) (.cells #[.int .i64 (y : Int)] 3)))
        have hsz := HK2.out.ls.below.size
        go_wp2_with (at_builtin; refine app_que rfl (.tmp 34) (.tmp 39) rfl rfl HKA.out.ls.que _ 1 _ [(y : Int)] rfl rfl (rowAt_one _ _ _) (by rintro ⟨⟩) (by omega) (by simp; omega) ?_; intro g5 o5 c5 w5 hq5 hg5 hgg5)
        have HN2 := Lib.hid (HKA.out.push (m := 1) rfl hq5 hg5 hgg5)
        clear hq5 hg5 hgg5
        go_roundg (gk - 1)
        case measure => omega
        case rel => exact ⟨k + 1, by omega, by go_num, g5, o5, c5, by rw [HN.out.1, List.length_append]; rfl, Lib.hid (by rw [HN.out.1]; exact HN2.out)⟩
      | false =>
        have HN := Lib.hid (tailsTo_no hx (by rw [Int.toNat_natCast]; exact hd))
        rw [hd] at c2
        clear hx hd
        go_wp2_with fail
        go_quiet (fail)
        go_wp2
        go_roundg (gk - 1)
        case measure => omega
        case rel => exact ⟨k + 1, by omega, by go_num, gw, ow, cw, by rw [HN.out], Lib.hid (by rw [HN.out]; exact HK.out.later (below_drewN (Below.refl _ _) _))⟩
    · obtain rfl : k = (preds g (h : Int)).length := by omega
      have HB := Lib.hid (And.intro (BI.start hh rfl) HK.out.ls)
      have htl := tailsTo_len g h (preds g (h : Int)).length
      have hsq : g.length * (g.length + 1) ≤ 1048576 * 1048577 := Nat.mul_le_mul hlen (by omega)
      generalize tailsTo g h (preds g (h : Int)).length = T at HB htl ⊢
      have hsq2 : (g.length - 1) * (g.length + 1) ≤ g.length * (g.length + 1) := Nat.mul_le_mul_right _ (by omega)
      obtain ⟨Z, hZ⟩ : ∃ Z, Z = g.length * (g.length + 1) + g.length := ⟨_, rfl⟩
      clear HK
      go_wp2_with fail
      go_loopg [7, 8] ((g.length - 1) * (g.length + 1) + T.length) (fun F s7 s8 wr => ∃ out work : List Int, F = (g.length - out.length) * (g.length + 1) + work.length ∧ F ≤ Z ∧ ∃ oa oc gw ow cw, s7 = .slice oa out.length oc ∧ s8 = .slice (some ⟨gw, ow, none⟩) work.length cw ∧
        Hid (LS w #[.int .i64 p, .int .i64 r, .slice ba g.length bc] oa oc out gw ow cw work wr ∧ BI g h out work))
      case atStart => exact ⟨[(h : Int)], T, rfl, by omega, _, _, gw, ow, cw, rfl, rfl, Lib.hid ⟨HB.out.2, HB.out.1⟩⟩
      case round =>
        obtain ⟨out, work, hF, hFZ, oa, oc, gw, ow, cw, rfl, rfl, HK⟩ := hrel
        clear HB htl
        have hol := HK.out.2.len
        cases work with
        | nil =>
          have HD := Lib.hid HK.out.2.done
          go_wp2
          go_ret
          rw [← HD.out]
          exact ⟨_, _, rfl, HK.out.1.res, HK.out.1.below⟩
        | cons b rest =>
          obtain ⟨y, hy, hyl, hyr⟩ := HK.out.2.wk b (by simp)
          subst hy
          have hq0 := HK.out.1.que.rd.cell (i := 0) (x := (y : Int)) rfl
          rw [Nat.add_zero] at hq0
          have hcw := HK.out.1.que.le
          have HT := Lib.hid HK.out.1.tail
          have hlc : 1 ≤ cw := by simp at hcw; omega
          have hrl : ((y : Int) :: rest).length = rest.length + 1 := rfl
          rw [hrl] at hcw hF ⊢
          obtain ⟨ow2, hw2⟩ : ∃ o, o = (if cw = 1 then ow else ow + 1) := ⟨_, rfl⟩
          rw [← hw2] at HT
          have hsl : (if cw = 1 then some (⟨gw, ow, none⟩ : Addr) else some ⟨gw, ow + 1, none⟩) = some ⟨gw, ow2, none⟩ := by
            rw [hw2]; split <;> rfl
          have hyi : (y : Int) < (g.length : Int) := by omega
          obtain ⟨b2, o2, rb, ro, rc, rfl, c1, c2⟩ := BMat.cell (HM.out.1.later bRowR_lasts HK.out.1.below) hyl hyl
          rw [domB_self] at c2
          have hin := idxInt_nonneg (x := (y : Int)) out
          have HIN := Lib.hid hin
          clear hin
          have hcpos : (0 : Int) < (rest.length + 1 : Nat) := by omega
          go_upto_region 11 with fail
          go_cut [8] (fun s8 wx => s8 = .slice (some ⟨gw, ow2, none⟩) rest.length (cw - 1) ∧ Hid (wx = wr))
          case first =>
            by_cases hc1 : cw = 1
            · subst hc1
              rw [if_pos rfl] at hw2
              have HR0 := Lib.hid (show rest.length = 0 by omega)
              go_wp2_with fail
              go_meet
              exact ⟨by rw [hw2, HR0.out], Lib.hid rfl⟩
            · have hc2 : ¬ 1 = cw := fun e => hc1 e.symm
              rw [if_neg hc1] at hw2
              go_wp2_with fail
              go_meet
              exact ⟨by rw [hw2], Lib.hid rfl⟩
          case rest =>
          obtain ⟨rfl, HW⟩ := hcut
          obtain rfl := HW.out
          clear HW hsl hw2 hq0
          go_wp2_with fail
          refine (l10At_any oa out.length oc out (y : Int) _ (ints_of_own HK.out.1.res).toIntsRd (by omega)).mono ?_
          rintro e w2 ⟨rfl, rfl⟩
          generalize hix : idxInt (y : Int) out = ix at HIN ⊢
          clear hix
          by_cases hyo : (y : Int) ∈ out
          · have hi0 : 0 ≤ ix := by have := HIN.out; rw [decide_eq_true hyo] at this; exact of_decide_eq_true this
            have hd : decide (0 ≤ ix) = true := decide_eq_true hi0
            have HN := Lib.hid (HK.out.2.skip (.inl hyo))
            clear HIN hyo
            go_wp2
            go_roundg ((g.length - out.length) * (g.length + 1) + rest.length)
            case measure => omega
            case rel => exact ⟨out, rest, rfl, by omega, oa, oc, gw, ow2, cw - 1, rfl, rfl, Lib.hid ⟨HT.out, HN.out⟩⟩
          · have hi0 : ¬ 0 ≤ ix := by have := HIN.out; rw [decide_eq_false hyo] at this; exact of_decide_eq_false this
            have hd : decide (0 ≤ ix) = false := decide_eq_false hi0
            cases hr : reachB g (-1) y with
            | false =>
              have HN := Lib.hid (HK.out.2.skip (.inr hr))
              rw [hr] at c2
              clear HIN hr hyo
              go_wp2
              go_roundg ((g.length - out.length) * (g.length + 1) + rest.length)
              case measure => omega
              case rel => exact ⟨out, rest, rfl, by omega, oa, oc, gw, ow2, cw - 1, rfl, rfl, Lib.hid ⟨HT.out, HN.out⟩⟩
            | true =>
              have HN := Lib.hid (And.intro (HK.out.2.take hyo hr) (ins_len HK.out.2.asc hyo))
              rw [hr] at c2
              clear HIN hr hyo
              go_wp2_with fail
              refine (insertO_any oa out.length oc out (y : Int) _ (ints_of_own HK.out.1.res) (by omega)).mono ?_
              rintro e w2 ⟨a2, c2', rfl, hro, hb2⟩
              have HT2 := Lib.hid (HT.out.ins hb2 hro)
              have HI2 := Lib.hid HN.out.1.len
              have hil := HN.out.1.len
              have hil2 := HN.out.2
              clear hro hb2 c1 c2
              generalize ins out (y : Int) = out2 at HN HT2 hil hil2 ⊢
              have k0 := cell_of_row _ _ 0 _ _ _ HT2.out.code
              have k1 := cell_of_row _ _ 1 _ _ _ HT2.out.code
              have k2 := cell_of_row _ _ 2 _ _ _ HT2.out.code
              simp only [List.getElem?_toArray, List.getElem?_cons_zero, List.getElem?_cons_succ] at k0 k1 k2
              go_wp2_with fail
              refine (l7Preds_any p r ba bc g (y : Int) w2 (HM.out.2.later HT2.out.below)).mono ?_
              rintro e w3 ⟨pa2, pc2, rfl, hown3, hb3⟩
              have HT3 := Lib.hid (HT2.out.later hb3)
              have hpy := preds_len g (y : Int)
              have HO3 := Lib.hid (And.intro (ints_of_own hown3).toIntsRd (fun h : pa2 = none => by subst h; exact own_nil hown3))
              have hsz3 := HT3.out.below.size
              have hXY : (g.length - out2.length) * (g.length + 1) + (g.length + 1) = (g.length - out.length) * (g.length + 1) := by
                rw [← Nat.succ_mul]
                congr 1
                omega
              clear hown3 hb3 k0 k1 k2
              go_wp2_with (at_builtin; refine app_que rfl (.tmp 66) (.tmp 69) rfl rfl HT3.out.que pa2 _ pc2 (preds g (y : Int)) rfl rfl HO3.out.1.row HO3.out.2 (by omega) hsz3 ?_; intro g5 o5 c5 w5 hq5 hg5 hgg5)
              have HN2 := Lib.hid (HT3.out.push rfl hq5 hg5 hgg5)
              clear hq5 hg5 hgg5
              go_roundg ((g.length - out2.length) * (g.length + 1) + (rest.length + (preds g (y : Int)).length))
              case measure => omega
              case rel => exact ⟨out2, rest ++ preds g (y : Int), by rw [List.length_append], by omega, a2, c2', g5, o5, c5, by rw [hil2], by rw [List.length_append], Lib.hid ⟨HN2.out, HN.out.1⟩⟩

/-! ### LoopBody -/
noncomputable def loopP (g : List (List Int)) (h : Int) : List Int := if h ∈ headsP g then loopL g h.toNat else []
theorem headsP_mem {g : List (List Int)} {h : Int} (hm : h ∈ headsP g) : Fits g ∧ ∃ i : Nat, h = (i : Int) ∧ i < g.length ∧ headB g i = true := by
  unfold headsP at hm
  split at hm
  · rename_i hf
    obtain ⟨i, hi, hb, rfl⟩ := filtTo_mem hm
    exact ⟨fits_iff.1 hf, i, rfl, hi, hb⟩
  · simp at hm

set_option maxRecDepth 100000 in
set_option maxHeartbeats 1000000 in
theorem specLoopBody_any (p r : Int) (ba : Option Addr) (bc : Nat) (g : List (List Int)) (h : Int) (w : World) (hg : Gr w ba g) :
    Calls Try.prog 51 #[.agg #[.int .i64 p, .int .i64 r, .slice ba g.length bc], .int .i64 h] w fun e w' => RetInts w (loopP g h) (loopP g h).length e w' := by
  have hb0 := below_box w (.int .i64 p) (.int .i64 r) (.slice ba g.length bc)
  have HC := Lib.hid (heap_alloc_new w (.cells #[.int .i64 p, .int .i64 r, .slice ba g.length bc] 51))
  have hlen := hg.len
  go_enter Try.func51, Try.ntmps51
  go_wp2_with fail
  refine (specLoopHeads_any p r ba bc g _ (hg.later hb0)).mono ?_
  rintro e w1 ⟨a1, c1, rfl, hrd1, hb1⟩
  have hhl := headsP_le hg
  have HO := Lib.hid (And.intro hrd1 (And.intro (hb0.trans (hb1.mono hb0.size)) ((hb1.block w.heap.size (by simp)).trans HC.out)))
  clear hrd1 hb1 hb0 HC
  go_wp2_with fail
  refine (l10At_any a1 _ c1 (headsP g) h w1 HO.out.1 (by omega)).mono ?_
  rintro e w2 ⟨rfl, rfl⟩
  have HIN := Lib.hid (idxInt_nonneg (x := h) (headsP g))
  generalize hix : idxInt h (headsP g) = ix at HIN ⊢
  clear hix
  have hszw := HO.out.2.1.size
  by_cases hm : h ∈ headsP g
  · have hi0 : 0 ≤ ix := by have := HIN.out; rw [decide_eq_true hm] at this; exact of_decide_eq_true this
    have hi1 : ¬ ix < 0 := by omega
    have HP := Lib.hid (show loopP g h = loopL g h.toNat by rw [loopP, if_pos hm])
    obtain ⟨hF, i, rfl, hil, hhb⟩ := headsP_mem hm
    have k0 := cell_of_row _ _ 0 _ _ _ HO.out.2.2
    have k1 := cell_of_row _ _ 1 _ _ _ HO.out.2.2
    have k2 := cell_of_row _ _ 2 _ _ _ HO.out.2.2
    simp only [List.getElem?_toArray, List.getElem?_cons_zero, List.getElem?_cons_succ] at k0 k1 k2
    have HR := Lib.hid (fun q : Nat => l11Doms_any g hF p r ba bc (w1.drewN q) (hg.later (below_drewN HO.out.2.1 q)))
    have HG := Lib.hid (hg.later HO.out.2.1)
    clear hm HIN hhb
    go_wp2_with fail
    go_region_law (first | (go_simp; go_at_call 101; refine (HR.out _).mono ?_; rintro e w2 ⟨oa, oc, rfl, hM, hb2⟩; (have hb12 : Below w1.heap.size w1 w2 := ⟨hb2.os, hb2.tape, hb2.output, hb2.size, hb2.block⟩); (have hk0' := cell_later hb12 k0); (have hk1' := cell_later hb12 k1); (have hk2' := cell_later hb12 k2); (have hg2 := HG.out.later hb12)) | (go_simp; go_at_call 100; refine (l17Body_any p r ba bc g oa oc i hil w2 hg2 hM.rd).mono ?_; rintro e w3 ⟨a3, c3, rfl, hown3, hb3⟩))
    all_goals
      have hb02 := HO.out.2.1.trans (hb12.mono HO.out.2.1.size)
      have hb03 := hb02.trans (hb3.mono hb02.size)
      have HO3 := Lib.hid (And.intro (own_lower hown3 (base' := w.heap.size) (fun k hk => Nat.le_trans hb02.size (hown3.lt k hk).1)) hb03)
      clear hown3 hb3 hb03 hb02 hb12 hk0' hk1' hk2' hg2 hM hb2 k0 k1 k2
      go_wp2
      go_ret
      rw [HP.out, Int.toNat_natCast]
      exact ⟨_, _, rfl, HO3.out.1, HO3.out.2⟩
  · have hi1 : ix < 0 := by have := HIN.out; rw [decide_eq_false hm] at this; have := of_decide_eq_false this; omega
    have HP := Lib.hid (show loopP g h = [] by rw [loopP, if_neg hm])
    clear hm HIN
    go_wp2
    go_ret
    rw [HP.out]
    exact ⟨_, _, rfl, own_empty w1 w.heap.size 3 1 hszw, HO.out.2.1.alloc hszw _⟩

end Go.Proofs.Ytkhnhdgbbjppeaa
