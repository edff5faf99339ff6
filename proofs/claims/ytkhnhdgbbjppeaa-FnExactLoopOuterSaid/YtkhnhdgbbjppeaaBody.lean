
/-
  The body of a loop, the program's walk.
-/
import Derived.Test.YtkhnhdgbbjppeaaLoop
import Derived.Test.YtkhnhdgbbjppeaaFlags
import Derived.Test.YtkhnhdgbbjppeaaOrderIn
namespace Go.Proofs.Ytkhnhdgbbjppeaa
open Go.RowKit

/-- What the program's map holds: the seen blocks that are reached. -/
noncomputable def flagG (g : List (List Int)) (s : List Bool) (z : Int) : Bool := decide (0 ≤ z) && (s.getD z.toNat false && reachB g (-1) z.toNat)
theorem flagG_set {g : List (List Int)} {s : List Bool} {b : Nat} (hb : b < s.length) (hr : reachB g (-1) b = true) (z : Int) : (decide (z = (b : Int)) || flagG g s z) = flagG g (s.set b true) z := by
  unfold flagG
  by_cases hz : z = (b : Int)
  · subst hz
    simp [hr, hb]
  · by_cases h0 : 0 ≤ z
    · have : ¬ b = z.toNat := by omega
      simp [hz, h0, this]
    · simp [hz, h0]
theorem flagG_wf {g : List (List Int)} {s : List Bool} (hl : g.length ≤ 1048576) {z : Int} (h : flagG g s z = true) : (Lit.int .i64 z).wf = true := by
  simp only [flagG, Bool.and_eq_true, decide_eq_true_eq] at h
  have := (reachB_true.1 h.2.2).lt
  exact WalkArith.wf_i64 (by omega)
theorem flagG_start {g : List (List Int)} {h : Nat} (hr : reachB g (-1) h = true) (z : Int) : flagG g (loopS0 g h) z = (decide (z = (h : Int)) || false) := by
  unfold flagG
  by_cases h0 : 0 ≤ z
  · by_cases hz : z = (h : Int)
    · subst hz
      have := (reachB_true.1 hr).lt
      simp [List.getD_eq_getElem?_getD, loopS0_get this, hr]
    · have hne : ¬ z.toNat = h := by omega
      by_cases hl : z.toNat < g.length
      · rw [List.getD_eq_getElem?_getD, loopS0_get hl]
        cases hrz : reachB g (-1) z.toNat <;> simp [h0, hz, hne]
      · rw [List.getD_eq_getElem?_getD, List.getElem?_eq_none (by rw [loopS0_len]; omega)]
        simp [hz]
  · have : ¬ z = (h : Int) := by omega
    simp [h0, this]
theorem flagG_loop {g : List (List Int)} {h : Nat} (hh : h < g.length) (hr : reachB g (-1) h = true) (z : Int) : z ∈ loopL g h ↔ flagG g (loopTo g h (preds g (h : Int)).length).1 z = true := by
  rw [loopL_mem]
  simp only [flagG, Bool.and_eq_true, decide_eq_true_eq]
  constructor
  · rintro ⟨h0, hl⟩
    have h1 := (loopTo_all hh hr hl.lt).2 hl
    refine ⟨h0, ?_, h1.2⟩
    rw [List.getD_eq_getElem?_getD, h1.1]; rfl
  · rintro ⟨h0, h1, h2⟩
    have hl := (reachB_true.1 h2).lt
    refine ⟨h0, (loopTo_all hh hr hl).1 ⟨?_, h2⟩⟩
    rw [List.getD_eq_getElem?_getD] at h1
    cases hs : (loopTo g h (preds g (h : Int)).length).1[z.toNat]? with
    | none => rw [hs] at h1; cases h1
    | some v => rw [hs] at h1; exact congrArg some h1

/-- The boxes of the closure, and the map. -/
structure BV (g : List (List Int)) (h : Nat) (w0 : World) (db mb bb vb M : Nat) (fv : Value) (s : List Bool) (w : World) : Prop where
  below : Below w0.heap.size w0 w
  m : w.heap[mb]? = some (.cells #[.map (some M)] 136 (0, 0))
  d : w.heap[bb]? = some (.cells #[.pointer (some ⟨db, 0, none⟩)] 90 (0, 0))
  v : w.heap[vb]? = some (.cells #[fv] 129 (0, 0))
  flags : FlagsAt w M (g.length + 1 - unseen s) (flagG g s)
  lo : w0.heap.size ≤ M
  more : More (loopS0 g h) s
theorem FlagsAt.blk {w : World} {M n : Nat} {G : Int → Bool} (h : FlagsAt w M n G) : ∃ es c, w.heap[M]? = some (.map es c) := by
  obtain ⟨D, ⟨es, clock, hM, _⟩, _⟩ := h
  exact ⟨es, clock, hM⟩
theorem BV.later {g : List (List Int)} {h : Nat} {w0 : World} {db mb bb vb M : Nat} {fv : Value} {s : List Bool} {w w' : World} (H : BV g h w0 db mb bb vb M fv s w) (hb : Below w.heap.size w w') : BV g h w0 db mb bb vb M fv s w' := by
  have lt : ∀ {k : Nat} {o : Obj}, w.heap[k]? = some o → w'.heap[k]? = some o := fun hk => (hb.block _ (Array.getElem?_eq_some_iff.1 hk).1).trans hk
  exact ⟨H.below.trans (hb.mono H.below.size), lt H.m, lt H.d, lt H.v, H.flags.later hb, H.lo, H.more⟩
theorem cells_beside {w w' : World} {M k : Nat} {C : Array Value} {t : TypeId} {es : Array MapEntry} {c : Nat} (hM : w.heap[M]? = some (.map es c)) (hg : w.grownBy w' (some M)) (hk : w.heap[k]? = some (.cells C t (0, 0))) : w'.heap[k]? = some (.cells C t (0, 0)) :=
  (hg.block k (Array.getElem?_eq_some_iff.1 hk).1 (fun e => by cases e; rw [hM] at hk; cases hk)).trans hk
theorem BV.turn {g : List (List Int)} {h : Nat} {w0 : World} {db mb bb vb M : Nat} {fv : Value} {s s' : List Bool} {w w' : World} (H : BV g h w0 db mb bb vb M fv s w) (hg : w.grownBy w' (some M)) (hf : FlagsAt w' M (g.length + 1 - unseen s') (flagG g s')) (hm : More s s') :
    BV g h w0 db mb bb vb M fv s' w' := by
  obtain ⟨es, c, hM⟩ := H.flags.blk
  exact ⟨H.below.grown hg H.below.size (fun j hj => by cases hj; exact H.lo), cells_beside hM hg H.m, cells_beside hM hg H.d, cells_beside hM hg H.v, hf, H.lo, H.more.trans hm⟩
theorem own_map {w w' : World} {M base n : Nat} {v : Value} {xs : List Value} {es : Array MapEntry} {c : Nat} (hM : w.heap[M]? = some (.map es c)) (hg : w.grownBy w' (some M)) (h : w.ownsRow base 3 1 v n xs) : w'.ownsRow base 3 1 v n xs :=
  own_turned h (turned_of_grown hg (S := fun k => k = M) (fun k hk => by cases hk; rfl)) (fun k hk e => by
    subst e
    obtain ⟨cur, hc⟩ := own_type h hk
    rw [hM] at hc
    cases hc)

theorem grown_below {a b c : World} {row : Option Nat} (h : a.grownBy b row) (hb : Below b.heap.size b c) : a.grownBy c row :=
  ⟨hb.os.trans h.os, hb.tape.trans h.tape, hb.output.trans h.output, Nat.le_trans h.size hb.size, fun k hk hne => (hb.block k (Nat.lt_of_lt_of_le hk h.size)).trans (h.block k hk hne)⟩

set_option maxRecDepth 100000 in
theorem body1_seen (p r : Int) (ba : Option Addr) (bc : Nat) (g : List (List Int)) (hlen : g.length ≤ 1048576) (db : Nat) (oa : Option Addr) (oc sb h : Nat) (w0 : World) (hD : DomsAt w0 p r ba bc g db oa oc sb) (mb bb vb M : Nat) (fv : Value) (b : Nat) (s : List Bool) (w : World)
    (hV : BV g h w0 db mb bb vb M fv s w) (hbg : b < g.length) (hs : seenAt s (b : Int) = true) :
    Calls Try.prog 140 #[.int .i64 (b : Int), .pointer (some ⟨mb, 0, none⟩), .pointer (some ⟨bb, 0, none⟩), .pointer (some ⟨vb, 0, none⟩)] w fun e w' => e = .returned (.tuple #[]) ∧ w = w' := by
  have hm0 : w.cell? ⟨mb, 0, none⟩ = some (.map (some M)) := cell_of_row _ _ 0 _ _ _ hV.m
  have hlk := hV.flags.look (m := (b : Int)) (WalkArith.wf_i64 (by omega))
  have hd0 : w.cell? ⟨bb, 0, none⟩ = some (.pointer (some ⟨db, 0, none⟩)) := cell_of_row _ _ 0 _ _ _ hV.d
  have hDw := hD.later hV.below
  have hd4 : w.cell? ⟨db, 4, none⟩ = some (.slice (some ⟨sb, 0, none⟩) g.length g.length) := cell_of_row _ _ 4 _ _ _ hDw.blk
  obtain ⟨b2, o2, x, hab, hx, hcx⟩ := hDw.inn.place hbg
  cases hab
  rw [reachRow_get hbg, Option.some.injEq] at hx
  subst hx
  have hsl : s.length = g.length := by rw [hV.more.length, loopS0_len]
  have hsb : s.getD b false = true := by
    unfold seenAt at hs
    rw [Int.toNat_natCast, List.getD_eq_getElem?_getD] at hs
    rw [List.getD_eq_getElem?_getD]
    rw [List.getElem?_eq_getElem (by omega)] at hs ⊢
    exact hs
  have hbi : (b : Int) < (g.length : Int) := by omega
  have hfl : flagG g s (b : Int) = reachB g (-1) b := by
    unfold flagG
    rw [Int.toNat_natCast, hsb]
    simp
  rw [hfl] at hlk
  clear hV hDw hs hsb hfl hD
  cases hr : reachB g (-1) b with
  | true =>
    rw [hr] at hlk hcx
    clear hr
    go_enter Try.func140, Try.ntmps140
    go_wp2
    refine bodyPost_ret (results_none rfl _ _ _) rfl ?_
    exact ⟨rfl, rfl⟩
  | false =>
    rw [hr] at hlk hcx
    clear hr
    rw [Nat.zero_add] at hcx
    go_enter Try.func140, Try.ntmps140
    go_wp2
    refine bodyPost_ret (results_none rfl _ _ _) rfl ?_
    exact ⟨rfl, rfl⟩

set_option maxRecDepth 100000 in
set_option maxHeartbeats 4000000 in
theorem body1_any (p r : Int) (ba : Option Addr) (bc : Nat) (g : List (List Int)) (db : Nat) (oa : Option Addr) (oc sb h : Nat) (w0 : World) (hg : Gr w0 ba g) (hD : DomsAt w0 p r ba bc g db oa oc sb) (mb bb vb M : Nat) : ∀ (f b : Nat) (st : St) (w : World),
    BV g h w0 db mb bb vb M (.func (.func 140) #[] #[.pointer (some ⟨mb, 0, none⟩), .pointer (some ⟨bb, 0, none⟩), .pointer (some ⟨vb, 0, none⟩)]) st.1 w → b < g.length → unseen st.1 ≤ f →
    Calls Try.prog 140 #[.int .i64 (b : Int), .pointer (some ⟨mb, 0, none⟩), .pointer (some ⟨bb, 0, none⟩), .pointer (some ⟨vb, 0, none⟩)] w fun e w' =>
      e = .returned (.tuple #[]) ∧ BV g h w0 db mb bb vb M (.func (.func 140) #[] #[.pointer (some ⟨mb, 0, none⟩), .pointer (some ⟨bb, 0, none⟩), .pointer (some ⟨vb, 0, none⟩)]) (dfs (predG g) f b st).1 w' ∧ w.grownBy w' (some M) := by
  intro f
  induction f with
  | zero =>
    intro b st w hV hbg huf
    have hsl : st.1.length = g.length := by rw [hV.more.length, loopS0_len]
    have hs : seenAt st.1 (b : Int) = true := by
      cases hs : seenAt st.1 (b : Int) with
      | true => rfl
      | false => have := unseen_set (seenAt_false hs); omega
    rw [dfs_seen hs]
    refine (body1_seen p r ba bc g hg.len db oa oc sb h w0 hD mb bb vb M _ b st.1 w hV hbg hs).mono ?_
    rintro e w' ⟨rfl, rfl⟩
    exact ⟨rfl, hV, World.grownBy.refl _ _⟩
  | succ f ih =>
    intro b st w hV hbg huf
    have hlen := hg.len
    have hsl : st.1.length = g.length := by rw [hV.more.length, loopS0_len]
    cases hs : seenAt st.1 (b : Int) with
    | true =>
      rw [dfs_seen hs]
      refine (body1_seen p r ba bc g hg.len db oa oc sb h w0 hD mb bb vb M _ b st.1 w hV hbg hs).mono ?_
      rintro e w' ⟨rfl, rfl⟩
      exact ⟨rfl, hV, World.grownBy.refl _ _⟩
    | false =>
      have hen : ∀ v W, (callFunc 140 (#[v] ++ #[.pointer (some ⟨mb, 0, none⟩), .pointer (some ⟨bb, 0, none⟩), .pointer (some ⟨vb, 0, none⟩)])).run Try.prog W = .ok (.enter 140 (#[v] ++ #[.pointer (some ⟨mb, 0, none⟩), .pointer (some ⟨bb, 0, none⟩), .pointer (some ⟨vb, 0, none⟩)])) W := fun _ _ => rfl
      have hsf := seenAt_false hs
      rw [Int.toNat_natCast] at hsf
      have hunb : unseen st.1 = unseen (st.1.set b true) + 1 := unseen_set hsf
      have hul := unseen_le st.1
      have hs0 := more_false hV.more hsf
      rw [loopS0_get hbg] at hs0
      simp only [Option.some.injEq, Bool.or_eq_false_iff, Bool.not_eq_false'] at hs0
      have hr := hs0.2
      have hda := dfs_all (f := f) (predG_get hbg) hs
      rw [hda]
      have hm0 : w.cell? ⟨mb, 0, none⟩ = some (.map (some M)) := cell_of_row _ _ 0 _ _ _ hV.m
      have hlk := hV.flags.look (m := (b : Int)) (WalkArith.wf_i64 (by omega))
      have hfl : flagG g st.1 (b : Int) = false := by
        unfold flagG
        rw [Int.toNat_natCast, List.getD_eq_getElem?_getD, hsf]; simp
      rw [hfl] at hlk
      have hd0 : w.cell? ⟨bb, 0, none⟩ = some (.pointer (some ⟨db, 0, none⟩)) := cell_of_row _ _ 0 _ _ _ hV.d
      have hDw := hD.later hV.below
      have hd4 : w.cell? ⟨db, 4, none⟩ = some (.slice (some ⟨sb, 0, none⟩) g.length g.length) := cell_of_row _ _ 4 _ _ _ hDw.blk
      obtain ⟨b2, o2, x, hab, hx, hcx⟩ := hDw.inn.place hbg
      cases hab
      rw [reachRow_get hbg, Option.some.injEq] at hx
      subst hx
      rw [hr, Nat.zero_add] at hcx
      have hbi : (b : Int) < (g.length : Int) := by omega
      obtain ⟨w2, hput, hf2, hg2⟩ := hV.flags.put (by unfold maxLen; omega) (m := (b : Int)) (WalkArith.wf_i64 (by omega))
      have hV2 := hV.turn (s' := st.1.set b true) hg2 (by
        have := hf2.same (fun z => flagG_set (by omega) hr z)
        rwa [show g.length + 1 - unseen st.1 + 1 = g.length + 1 - unseen (st.1.set b true) by omega] at this) (more_set _ _)
      have HV2 := Lib.hid (And.intro hV2 hg2)
      have HS := Lib.hid (And.intro hunb (And.intro huf hsl))
      have hd0' : w2.cell? ⟨bb, 0, none⟩ = some (.pointer (some ⟨db, 0, none⟩)) := cell_of_row _ _ 0 _ _ _ hV2.d
      have hDw2 := hD.later hV2.below
      have hc0 : w2.cell? ⟨db, 0, none⟩ = some (.int .i64 p) := cell_of_row _ _ 0 _ _ _ hDw2.blk
      have hc1 : w2.cell? ⟨db, 1, none⟩ = some (.int .i64 r) := cell_of_row _ _ 1 _ _ _ hDw2.blk
      have hc2 : w2.cell? ⟨db, 2, none⟩ = some (.slice ba g.length bc) := cell_of_row _ _ 2 _ _ _ hDw2.blk
      clear hV hV2 hf2 hg2 hs hsf hunb huf hul hs0 hr hfl hDw hDw2 hda hsl
      go_enter Try.func140, Try.ntmps140
      go_wp2_with fail
      have hbk : okN g.length (b : Int) = true := okN_iff.2 ⟨by omega, by omega⟩
      refine (predsOf_any p r ba bc g (b : Int) hbk w2 (hg.later HV2.out.1.below)).mono ?_
      rintro e w3 ⟨pa, pc, rfl, hown3, hb3⟩
      have hpl := preds_len g (b : Int)
      have HV3 := Lib.hid (And.intro (HV2.out.1.later hb3) (And.intro (grown_below HV2.out.2 hb3) hown3))
      obtain ⟨B, hB⟩ : ∃ B, B = w2.heap.size := ⟨_, rfl⟩
      rw [← hB] at HV3
      clear hown3 hb3 hB HV2 hm0 hlk hd0 hd0' hd4 hcx hput hc0 hc1 hc2 hbk
      go_wp2_with fail
      go_loopg [29] (preds g (b : Int)).length (fun F i wr => ∃ k : Nat, k + F = (preds g (b : Int)).length ∧ i = .int .i64 k ∧ Hid (BV g h w0 db mb bb vb M (.func (.func 140) #[] #[.pointer (some ⟨mb, 0, none⟩), .pointer (some ⟨bb, 0, none⟩), .pointer (some ⟨vb, 0, none⟩)]) (dfsTo (predG g) f b (preds g (b : Int)) st k).1 wr ∧
        w.grownBy wr (some M) ∧ wr.ownsRow B 3 1 (.slice pa (preds g (b : Int)).length pc) (preds g (b : Int)).length ((preds g (b : Int)).map (Value.int .i64))))
      case atStart => exact ⟨0, by omega, rfl, HV3⟩
      case round =>
        obtain ⟨k, hk, rfl, HK⟩ := hrel
        clear HV3
        by_cases hlt : k < (preds g (b : Int)).length
        · obtain ⟨b2, o2, x, rfl, hx, hcx⟩ := (ints_of_own HK.out.2.2).toIntsRd.place hlt
          obtain ⟨m, hm, rfl⟩ := preds_mem (List.mem_of_getElem? hx)
          have hvx : wr.cell? ⟨vb, 0, none⟩ = some (.func (.func 140) #[] #[.pointer (some ⟨mb, 0, none⟩), .pointer (some ⟨bb, 0, none⟩), .pointer (some ⟨vb, 0, none⟩)]) := cell_of_row _ _ 0 _ _ _ HK.out.1.v
          have humore := unseen_more (dfsTo_more (predG g) f b (preds g (b : Int)) st k)
          have hs := HS.out
          have hih := ih m (dfsTo (predG g) f b (preds g (b : Int)) st k) wr HK.out.1 hm (by omega)
          rw [← dfsTo_succ hx] at hih
          have HI := Lib.hid hih
          have hki : (k : Int) < ((preds g (b : Int)).length : Int) := by omega
          clear hih humore hs hx
          go_wp2_with fail
          refine HI.out.mono ?_
          rintro e w5 ⟨rfl, hv5, hg5⟩
          obtain ⟨es, c, hM⟩ := HK.out.1.flags.blk
          have HN := Lib.hid (And.intro hv5 (And.intro (HK.out.2.1.andThen hg5 (fun j hj => .inr hj)) (own_map hM hg5 HK.out.2.2)))
          clear hv5 hg5 hM HI hcx hvx
          go_wp2
          go_roundg (gk - 1)
          case measure => omega
          case rel => exact ⟨k + 1, by omega, by go_num, HN⟩
        · obtain rfl : k = (preds g (b : Int)).length := by omega
          go_wp2
          go_end0
          exact ⟨rfl, HK.out.1, HK.out.2.1⟩

set_option maxRecDepth 100000 in
set_option maxHeartbeats 4000000 in
theorem body_any (p r : Int) (ba : Option Addr) (bc : Nat) (g : List (List Int)) (hfit : Fits g) (db : Nat) (oa : Option Addr) (oc sb h : Nat) (hh : h < g.length) (hr : reachB g (-1) h = true) (w : World) (hg : Gr w ba g) (hD : DomsAt w p r ba bc g db oa oc sb) :
    Calls Try.prog 97 #[.pointer (some ⟨db, 0, none⟩), .int .i64 (h : Int)] w fun e w' => RetInts w (loopL g h) (loopL g h).length e w' := by
  have hmm := @run_makeMap Try.prog
  have hmf : ∀ (fn : Fn) (first cap : Array Value) (w : World), (Instr.makeFunc fn first cap).run Try.prog w = .ok (.func fn first cap) w := fun _ _ _ _ => rfl
  have hlen := hg.len
  have hb1 : Below w.heap.size w ((w.alloc (.cells #[.pointer (some ⟨db, 0, none⟩)] 90)).alloc (.map #[] 0)) := ((Below.refl _ _).alloc (Nat.le_refl _) _).alloc (by simp) _
  have hF1 := FlagsAt.made (w.alloc (.cells #[.pointer (some ⟨db, 0, none⟩)] 90))
  rw [World.size_alloc] at hF1
  obtain ⟨w2, hput, hF2, hg2⟩ := hF1.put (by unfold maxLen; omega) (m := (h : Int)) (WalkArith.wf_i64 (by omega))
  have hb2 : Below w.heap.size w w2 := hb1.grown hg2 (by simp; omega) (fun j hj => by cases hj; omega)
  have hbb : w2.heap[w.heap.size]? = some (.cells #[.pointer (some ⟨db, 0, none⟩)] 90 (0, 0)) := by
    rw [hg2.block w.heap.size (by simp; omega) (fun e => by simp at e)]
    exact heap_alloc2_old w _ _
  have hsz2 : w.heap.size + 2 ≤ w2.heap.size := by have := hg2.size; simp at this; omega
  have hst1 := run_store_new w2 w2.heap.size (.map none) (.map (some (w.heap.size + 1))) 136 rfl rfl
  have hst2 := run_store_new (w2.alloc (.cells #[.map (some (w.heap.size + 1))] 136)) (w2.heap.size + 1) .nilFunc (.func (.func 140) #[] #[.pointer (some ⟨w2.heap.size, 0, none⟩), .pointer (some ⟨w.heap.size, 0, none⟩), .pointer (some ⟨w2.heap.size + 1, 0, none⟩)]) 129 (by simp) rfl
  have hb3 : Below w2.heap.size w2 ((w2.alloc (.cells #[.map (some (w.heap.size + 1))] 136)).alloc (.cells #[.func (.func 140) #[] #[.pointer (some ⟨w2.heap.size, 0, none⟩), .pointer (some ⟨w.heap.size, 0, none⟩), .pointer (some ⟨w2.heap.size + 1, 0, none⟩)]] 129)) := ((Below.refl _ _).alloc (Nat.le_refl _) _).alloc (by simp) _
  have hlS := unseen_le (loopS0 g h)
  rw [loopS0_len] at hlS
  have hV : BV g h w db w2.heap.size w.heap.size (w2.heap.size + 1) (w.heap.size + 1) (.func (.func 140) #[] #[.pointer (some ⟨w2.heap.size, 0, none⟩), .pointer (some ⟨w.heap.size, 0, none⟩), .pointer (some ⟨w2.heap.size + 1, 0, none⟩)]) (loopS0 g h)
      ((w2.alloc (.cells #[.map (some (w.heap.size + 1))] 136)).alloc (.cells #[.func (.func 140) #[] #[.pointer (some ⟨w2.heap.size, 0, none⟩), .pointer (some ⟨w.heap.size, 0, none⟩), .pointer (some ⟨w2.heap.size + 1, 0, none⟩)]] 129)) := by
    refine ⟨hb2.trans (hb3.mono hb2.size), heap_alloc2_old w2 _ _, (hb3.block _ (Array.getElem?_eq_some_iff.1 hbb).1).trans hbb, heap_alloc2_new w2 _ _, ?_, by omega, More.refl _⟩
    have h1 := (hF2.later hb3).same (fun z => (flagG_start hr z).symm)
    obtain ⟨D, h2, h3⟩ := h1
    exact ⟨D, h2.mono (by omega), h3⟩
  have hd0 := cell_of_row _ _ 0 _ _ _ hV.d
  have hDw := hD.later hV.below
  have hc0 := cell_of_row _ _ 0 _ _ _ hDw.blk
  have hc1 := cell_of_row _ _ 1 _ _ _ hDw.blk
  have hc2 := cell_of_row _ _ 2 _ _ _ hDw.blk
  simp only [List.getElem?_toArray, List.getElem?_cons_zero, List.getElem?_cons_succ] at hc0 hc1 hc2 hd0
  have HV := Lib.hid hV
  clear hV hDw hb1 hb2 hb3 hbb hF1 hF2 hg2
  go_enter Try.func97, Try.ntmps97
  go_wp2_with fail
  generalize (w2.alloc (.cells #[.map (some (w.heap.size + 1))] 136)).alloc (.cells #[(.func (.func 140) #[] #[.pointer (some ⟨w2.heap.size, 0, none⟩), .pointer (some ⟨w.heap.size, 0, none⟩), .pointer (some ⟨w2.heap.size + 1, 0, none⟩)])] 129) = w4 at HV hd0 hc0 hc1 hc2 ⊢
  clear hmm hput hst1 hst2
  have hbk : okN g.length (h : Int) = true := okN_iff.2 ⟨by omega, by omega⟩
  refine (predsOf_any p r ba bc g (h : Int) hbk w4 (hg.later HV.out.below)).mono ?_
  rintro e w5 ⟨pa, pc, rfl, hown5, hb5⟩
  have hpl := preds_len g (h : Int)
  have HP := Lib.hid (And.intro (HV.out.later hb5) hown5)
  obtain ⟨B, hB⟩ : ∃ B, B = w4.heap.size := ⟨_, rfl⟩
  rw [← hB] at HP
  have hen : ∀ v W, (callFunc 140 (#[v] ++ #[.pointer (some ⟨w2.heap.size, 0, none⟩), .pointer (some ⟨w.heap.size, 0, none⟩), .pointer (some ⟨w2.heap.size + 1, 0, none⟩)])).run Try.prog W = .ok (.enter 140 (#[v] ++ #[.pointer (some ⟨w2.heap.size, 0, none⟩), .pointer (some ⟨w.heap.size, 0, none⟩), .pointer (some ⟨w2.heap.size + 1, 0, none⟩)])) W := fun _ _ => rfl
  have HD := Lib.hid hD
  clear hown5 hb5 hB HV hd0 hc0 hc1 hc2 hbk hD
  go_wp2_with fail
  go_loopg [20] (preds g (h : Int)).length (fun F i wr => ∃ k : Nat, k + F = (preds g (h : Int)).length ∧ i = .int .i64 k ∧ Hid (BV g h w db w2.heap.size w.heap.size (w2.heap.size + 1) (w.heap.size + 1) (.func (.func 140) #[] #[.pointer (some ⟨w2.heap.size, 0, none⟩), .pointer (some ⟨w.heap.size, 0, none⟩), .pointer (some ⟨w2.heap.size + 1, 0, none⟩)]) (loopTo g h k).1 wr ∧
    wr.ownsRow B 3 1 (.slice pa (preds g (h : Int)).length pc) (preds g (h : Int)).length ((preds g (h : Int)).map (Value.int .i64))))
  case atStart => exact ⟨0, by omega, rfl, HP⟩
  case round =>
    obtain ⟨k, hk, rfl, HK⟩ := hrel
    clear HP
    have hd0 : wr.cell? ⟨w.heap.size, 0, none⟩ = some (.pointer (some ⟨db, 0, none⟩)) := cell_of_row _ _ 0 _ _ _ HK.out.1.d
    by_cases hlt : k < (preds g (h : Int)).length
    · obtain ⟨b2, o2, x, rfl, hx, hcx⟩ := (ints_of_own HK.out.2).toIntsRd.place hlt
      obtain ⟨m, hm, rfl⟩ := preds_mem (List.mem_of_getElem? hx)
      have hki : (k : Int) < ((preds g (h : Int)).length : Int) := by omega
      go_wp2_with fail
      refine (dominates_any p r ba bc g hfit db oa oc sb (h : Int) (m : Int) wr (HD.out.later HK.out.1.below) hlen).mono ?_
      rw [domP_nat hfit hh hm]
      rintro e w6 ⟨rfl, hb6⟩
      have HK6 := Lib.hid (And.intro (HK.out.1.later hb6) (ownsRow_below HK.out.2 hb6))
      clear hb6 hd0 hcx
      cases hd : domB g h m with
      | false =>
        have HN := Lib.hid (loopTo_no hx (by rw [Int.toNat_natCast]; exact hd))
        clear hx hd
        go_wp2
        go_roundg (gk - 1)
        case measure => omega
        case rel => exact ⟨k + 1, by omega, by go_num, Lib.hid ⟨by rw [HN.out]; exact HK6.out.1, HK6.out.2⟩⟩
      | true =>
        have HN := Lib.hid (loopTo_yes hx (by rw [Int.toNat_natCast]; exact hd))
        have hvx : w6.cell? ⟨w2.heap.size + 1, 0, none⟩ = some (.func (.func 140) #[] #[.pointer (some ⟨w2.heap.size, 0, none⟩), .pointer (some ⟨w.heap.size, 0, none⟩), .pointer (some ⟨w2.heap.size + 1, 0, none⟩)]) := cell_of_row _ _ 0 _ _ _ HK6.out.1.v
        have hun : unseen (loopTo g h k).1 ≤ g.length := by
          have := unseen_le (loopTo g h k).1
          rw [HK6.out.1.more.length, loopS0_len] at this
          exact this
        have HI := Lib.hid (body1_any p r ba bc g db oa oc sb h w hg HD.out w2.heap.size w.heap.size (w2.heap.size + 1) (w.heap.size + 1) g.length m (loopTo g h k) w6 HK6.out.1 hm hun)
        clear hx hd hun
        go_wp2_with fail
        refine HI.out.mono ?_
        rintro e w7 ⟨rfl, hv7, hg7⟩
        obtain ⟨es, c, hM⟩ := HK6.out.1.flags.blk
        rw [← HN.out] at hv7
        have HN2 := Lib.hid (And.intro hv7 (own_map hM hg7 HK6.out.2))
        clear hv7 hg7 hM HI hvx
        go_wp2
        go_roundg (gk - 1)
        case measure => omega
        case rel => exact ⟨k + 1, by omega, by go_num, HN2⟩
    · obtain rfl : k = (preds g (h : Int)).length := by omega
      have hm0 : wr.cell? ⟨w2.heap.size, 0, none⟩ = some (.map (some (w.heap.size + 1))) := cell_of_row _ _ 0 _ _ _ HK.out.1.m
      go_wp2_with fail
      refine (sortedKeys_any _ _ _ (loopL g h) wr HK.out.1.flags (by omega) (loopL_asc g h) (flagG_loop hh hr) (fun z hz => flagG_wf hlen hz)).mono ?_
      rintro e w8 ⟨a8, c8, rfl, hown8, hb8⟩
      have HN := Lib.hid (And.intro (own_lower hown8 (base' := w.heap.size) (fun k hk => Nat.le_trans HK.out.1.below.size (hown8.lt k hk).1)) (HK.out.1.below.trans (hb8.mono HK.out.1.below.size)))
      clear hown8 hb8
      go_wp2
      go_ret
      exact ⟨_, _, rfl, HN.out.1, HN.out.2⟩

end Go.Proofs.Ytkhnhdgbbjppeaa
