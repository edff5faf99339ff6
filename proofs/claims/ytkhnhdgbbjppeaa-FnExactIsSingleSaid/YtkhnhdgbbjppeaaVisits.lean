
/-
  The program's visit in depth computes 'dfs'.
-/
import Derived.Test.YtkhnhdgbbjppeaaDepth
import Derived.Deep.LoopGhost
namespace Go.Proofs.Ytkhnhdgbbjppeaa
open Go.RowKit

/-- The boxes of the closure, the row of seen blocks, and the list. -/
structure VS (w0 : World) (C : Array Value) (n cb sbx vb xb sb : Nat) (fv : Value) (st : St) (w : World) : Prop where
  below : Below w0.heap.size w0 w
  c : w.heap[cb]? = some (.cells C 51 (0, 0))
  s : w.heap[sbx]? = some (.cells #[.slice (some ⟨sb, 0, none⟩) n n] 124 (0, 0))
  v : w.heap[vb]? = some (.cells #[fv] 129 (0, 0))
  o : ∃ oa oc, w.heap[xb]? = some (.cells #[.slice oa st.2.length oc] 40 (0, 0)) ∧ w.ownsRow w0.heap.size 3 1 (.slice oa st.2.length oc) st.2.length (st.2.map (Value.int .i64))
  seen : w.ownsRow w0.heap.size 4 1 (.slice (some ⟨sb, 0, none⟩) n n) n (st.1.map Value.bool)
  lo : w0.heap.size ≤ cb ∧ w0.heap.size ≤ sbx ∧ w0.heap.size ≤ vb ∧ w0.heap.size ≤ xb
theorem VS.later {w0 : World} {C : Array Value} {n cb sbx vb xb sb : Nat} {fv : Value} {st : St} {w w' : World} (h : VS w0 C n cb sbx vb xb sb fv st w) (hb : Below w.heap.size w w') : VS w0 C n cb sbx vb xb sb fv st w' := by
  obtain ⟨oa, oc, h1, h2⟩ := h.o
  have lt : ∀ {k : Nat} {o : Obj}, w.heap[k]? = some o → w'.heap[k]? = some o := fun hk => (hb.block _ (Array.getElem?_eq_some_iff.1 hk).1).trans hk
  exact ⟨h.below.trans (hb.mono h.below.size), lt h.c, lt h.s, lt h.v, ⟨oa, oc, lt h1, ownsRow_below h2 hb⟩, ownsRow_below h.seen hb, h.lo⟩
theorem VS.mark {w0 : World} {C : Array Value} {n cb sbx vb xb sb : Nat} {fv : Value} {st : St} {w : World} (h : VS w0 C n cb sbx vb xb sb fv st w) (b : Nat) : VS w0 C n cb sbx vb xb sb fv (st.1.set b true, st.2) (w.setCell ⟨sb, b, none⟩ (.bool true)) := by
  obtain ⟨oa, oc, h1, h2⟩ := h.o
  obtain ⟨cur, hsb⟩ := own_type h.seen (k := sb) rfl
  have hst := h.seen.stored b (.bool true)
  have ne : ∀ {k : Nat} {C' : Array Value} {t : TypeId}, w.heap[k]? = some (.cells C' t (0, 0)) → t ≠ 4 → (w.setCell ⟨sb, b, none⟩ (.bool true)).heap[k]? = some (.cells C' t (0, 0)) := fun {k _ _} hk ht => by
    rw [heap_setCell_other w _ _ _ (fun e => by
      have e' : k = sb := e
      subst e'
      rw [hk] at hsb
      simp at hsb
      exact ht hsb.2)]
    exact hk
  refine ⟨h.below.setCell (h.seen.lt sb rfl).1 _, ne h.c (by decide), ne h.s (by decide), ne h.v (by decide), ⟨oa, oc, ne h1 (by decide), ?_⟩, by rw [List.map_set]; exact hst.1, h.lo⟩
  exact own_turned h2 (turned_of_grown hst.2 (S := fun k => k = sb) (fun k hk => by cases hk; rfl)) (fun k hk e => by subst e; exact own_apart h.seen h2 (by decide) rfl hk)
/-- What an append and a store of the list make. -/
theorem VS.push {w0 : World} {C : Array Value} {n cb sbx vb xb sb : Nat} {fv : Value} {st : St} {w w' : World} {oa a' : Option Addr} {oc c' : Nat} {x : Int} (h : VS w0 C n cb sbx vb xb sb fv st w) (h2 : w.ownsRow w0.heap.size 3 1 (.slice oa st.2.length oc) st.2.length (st.2.map (Value.int .i64)))
    (hx : ∃ cur, w.heap[xb]? = some (.cells #[cur] 40 (0, 0)))
    (hr : w'.ownsRow w0.heap.size 3 1 (.slice a' (st.2.length + 1) c') (st.2.length + 1) (st.2.map (Value.int .i64) ++ [x].map (Value.int .i64))) (hg : w.grownBy w' (Value.slice oa st.2.length oc).ownBlock) :
    (∃ cur, w'.heap[xb]? = some (.cells #[cur] 40 (0, 0))) ∧ VS w0 C n cb sbx vb xb sb fv (st.1, st.2 ++ [x]) (w'.setCell ⟨xb, 0, none⟩ (.slice a' (st.2.length + 1) c')) := by
  have keep : ∀ {k : Nat} {C' : Array Value} {t : TypeId}, w.heap[k]? = some (.cells C' t (0, 0)) → t ≠ 3 → w'.heap[k]? = some (.cells C' t (0, 0)) := fun {k C' t} hk ht =>
    (hg.block k (Array.getElem?_eq_some_iff.1 hk).1 (fun e => by
      obtain ⟨cur, hc⟩ := own_type h2 e.symm
      rw [hk] at hc
      simp at hc
      exact ht hc.2)).trans hk
  obtain ⟨cur, hxw⟩ := hx
  have hx' := keep hxw (by decide)
  have ne : ∀ {k : Nat} {C' : Array Value} {t : TypeId}, w'.heap[k]? = some (.cells C' t (0, 0)) → t ≠ 40 → (w'.setCell ⟨xb, 0, none⟩ (.slice a' (st.2.length + 1) c')).heap[k]? = some (.cells C' t (0, 0)) := fun {k _ _} hk ht => by
    rw [heap_setCell_other w' _ _ _ (fun e => by
      have e' : k = xb := e
      subst e'
      rw [hx'] at hk
      simp at hk
      exact ht hk.2.symm)]
    exact hk
  have hts : Turned (fun k => k = xb) w' (w'.setCell ⟨xb, 0, none⟩ (.slice a' (st.2.length + 1) c')) := ⟨rfl, rfl, rfl, by rw [World.size_setCell]; exact Nat.le_refl _, fun j _ hj => heap_setCell_other w' _ j _ (fun e => hj e)⟩
  have ownk : ∀ {e : TypeId} {v : Value} {m : Nat} {ys : List Value}, w'.ownsRow w0.heap.size e 1 v m ys → e ≠ 40 → (w'.setCell ⟨xb, 0, none⟩ (.slice a' (st.2.length + 1) c')).ownsRow w0.heap.size e 1 v m ys := fun {e v m ys} ho he =>
    own_turned ho hts (fun k hk e2 => by
      obtain ⟨cur2, hc⟩ := own_type ho hk
      rw [e2, hx'] at hc
      simp at hc
      exact he hc.2.symm)
  have hseen : w'.ownsRow w0.heap.size 4 1 (.slice (some ⟨sb, 0, none⟩) n n) n (st.1.map Value.bool) := own_turned (S := fun j => (Value.slice oa st.2.length oc).ownBlock = some j) h.seen (turned_of_grown hg (fun j hj => hj)) (fun j hj => own_apart h.seen h2 (by decide) hj)
  refine ⟨⟨cur, hx'⟩, ⟨?_, ne (keep h.c (by decide)) (by decide), ne (keep h.s (by decide)) (by decide), ne (keep h.v (by decide)) (by decide), ⟨a', c', ?_, ?_⟩, ownk hseen (by decide), h.lo⟩⟩
  · exact (h.below.trans ((Below.refl _ _).grown hg h.below.size (fun j hj => (h2.lt j hj).1))).setCell (by show w0.heap.size ≤ xb; exact h.lo.2.2.2) _
  · rw [heap_setCell_same w' xb 0 _ _ _ hx']
    simp
  · have := ownk hr (by decide)
    simpa using this

set_option maxRecDepth 100000 in
set_option maxHeartbeats 4000000 in
theorem visits1_any (g : List (List Int)) (hf : Fits g) (p r : Int) (ba : Option Addr) (bc : Nat) (w0 : World) (hg : Gr w0 ba g) (cb sbx vb xb sb : Nat) : ∀ (f b : Nat) (st : St) (w : World),
    VS w0 #[.int .i64 p, .int .i64 r, .slice ba g.length bc] g.length cb sbx vb xb sb (.func (.func 130) #[] #[.pointer (some ⟨sbx, 0, none⟩), .pointer (some ⟨cb, 0, none⟩), .pointer (some ⟨vb, 0, none⟩), .pointer (some ⟨xb, 0, none⟩)]) st w →
    st.2.length + unseen st.1 ≤ 1048576 → b < g.length → seenAt st.1 (b : Int) = false → unseen st.1 ≤ f →
    Calls Try.prog 130 #[.int .i64 (b : Int), .pointer (some ⟨sbx, 0, none⟩), .pointer (some ⟨cb, 0, none⟩), .pointer (some ⟨vb, 0, none⟩), .pointer (some ⟨xb, 0, none⟩)] w fun e w' =>
      e = .returned (.tuple #[]) ∧ VS w0 #[.int .i64 p, .int .i64 r, .slice ba g.length bc] g.length cb sbx vb xb sb (.func (.func 130) #[] #[.pointer (some ⟨sbx, 0, none⟩), .pointer (some ⟨cb, 0, none⟩), .pointer (some ⟨vb, 0, none⟩), .pointer (some ⟨xb, 0, none⟩)]) (dfs g f b st) w' := by
  intro f
  induction f with
  | zero =>
    intro b st w hV hcap hbg hun huf
    have := unseen_set (seenAt_false hun)
    omega
  | succ f ih =>
    intro b st w hV hcap hbg hun huf
    have hlen := hg.len
    have hen : ∀ v W, (callFunc 130 (#[v] ++ #[.pointer (some ⟨sbx, 0, none⟩), .pointer (some ⟨cb, 0, none⟩), .pointer (some ⟨vb, 0, none⟩), .pointer (some ⟨xb, 0, none⟩)])).run Try.prog W = .ok (.enter 130 (#[v] ++ #[.pointer (some ⟨sbx, 0, none⟩), .pointer (some ⟨cb, 0, none⟩), .pointer (some ⟨vb, 0, none⟩), .pointer (some ⟨xb, 0, none⟩)])) W := fun _ _ => rfl
    have hunb := unseen_set (seenAt_false hun)
    have hunb : unseen st.1 = unseen (st.1.set b true) + 1 := hunb
    obtain ⟨bb, boff, l, na, nc, rfl, hgl, hc4w, hi0⟩ := hg.place hbg
    have hda := dfs_all (f := f) hgl hun
    have hll := hg.row hgl
    rw [hda]
    have hsl : st.1.length = g.length := by have := hV.seen.1; simpa using this
    have hcb : w.cell? ⟨sb, b, none⟩ = some (.bool false) := by
      rw [hV.seen.cellAt b (by omega), List.getElem?_map]
      have := seenAt_false hun
      simp only [Int.toNat_natCast] at this
      rw [this]; rfl
    have hfb := hV.seen.frozenAt b
    have hsx : w.cell? ⟨sbx, 0, none⟩ = some (.slice (some ⟨sb, 0, none⟩) g.length g.length) := cell_of_row _ _ 0 _ _ _ hV.s
    have hV1 := hV.mark b
    have hcx : (w.setCell ⟨sb, b, none⟩ (.bool true)).cell? ⟨cb, 2, none⟩ = some (.slice (some ⟨bb, boff, none⟩) g.length bc) := cell_of_row _ _ 2 _ _ _ hV1.c
    have hc41 := cell_later hV1.below hc4w
    have HV1 := Lib.hid hV1
    have HS := Lib.hid (And.intro hunb (And.intro huf (And.intro hcap (And.intro hsl (hf.inn b l hgl)))))
    clear hV1 hV hda hun hunb huf hcap hsl hc4w
    go_enter Try.func130, Try.ntmps130
    go_wp2
    generalize w.setCell ⟨sb, b, none⟩ (.bool true) = W1 at HV1 hcx hc41 ⊢
    clear hcx hc41
    go_loopg [18] l.length (fun F i wr => ∃ k : Nat, k + F = l.length ∧ i = .int .i64 k ∧ Hid (VS w0 #[.int .i64 p, .int .i64 r, .slice (some ⟨bb, boff, none⟩) g.length bc] g.length cb sbx vb xb sb (.func (.func 130) #[] #[.pointer (some ⟨sbx, 0, none⟩), .pointer (some ⟨cb, 0, none⟩), .pointer (some ⟨vb, 0, none⟩), .pointer (some ⟨xb, 0, none⟩)]) (dfsTo g f b l st k) wr))
    case atStart => exact ⟨0, by omega, rfl, HV1⟩
    case round =>
      obtain ⟨k, hk, rfl, HK⟩ := hrel
      clear HV1
      by_cases hlt : k < l.length
      · obtain ⟨b2, off2, x, rfl, hx, hcx⟩ := (hi0.later HK.out.below).place hlt
        have hxr := HS.out.2.2.2.2 x (List.mem_of_getElem? hx)
        obtain ⟨m, rfl⟩ : ∃ m : Nat, x = (m : Int) := ⟨x.toNat, by omega⟩
        have hmg : m < g.length := by omega
        have hdl : (dfsTo g f b l st k).1.length = g.length := by have := (dfsTo_more g f b l st k).length; rw [this]; simpa using HS.out.2.2.2.1
        obtain ⟨v, hv⟩ : ∃ v, (dfsTo g f b l st k).1[m]? = some v := ⟨_, List.getElem?_eq_getElem (by omega)⟩
        have hcv : wr.cell? ⟨sb, m, none⟩ = some (.bool v) := by
          rw [HK.out.seen.cellAt m (by omega), List.getElem?_map, hv]; rfl
        have hsx2 : wr.cell? ⟨sbx, 0, none⟩ = some (.slice (some ⟨sb, 0, none⟩) g.length g.length) := cell_of_row _ _ 0 _ _ _ HK.out.s
        have hvx : wr.cell? ⟨vb, 0, none⟩ = some (.func (.func 130) #[] #[.pointer (some ⟨sbx, 0, none⟩), .pointer (some ⟨cb, 0, none⟩), .pointer (some ⟨vb, 0, none⟩), .pointer (some ⟨xb, 0, none⟩)]) := cell_of_row _ _ 0 _ _ _ HK.out.v
        have HX := Lib.hid (dfsTo_succ (g := g) (f := f) (b := b) (st := st) hx)
        clear hx hxr
        cases v with
        | true =>
          have hds : dfsTo g f b l st (k + 1) = dfsTo g f b l st k := by
            rw [HX.out]
            exact dfs_seen (by unfold seenAt; rw [List.getD_eq_getElem?_getD, Int.toNat_natCast, hv]; rfl) f
          have HD := Lib.hid hds
          clear hds hv
          go_wp2
          go_roundg (gk - 1)
          case measure => omega
          case rel => exact ⟨k + 1, by omega, by go_num, by rw [HD.out]; exact HK⟩
        | false =>
          have hsf : seenAt (dfsTo g f b l st k).1 (m : Int) = false := by unfold seenAt; rw [List.getD_eq_getElem?_getD, Int.toNat_natCast, hv]; rfl
          have hcnt := dfsTo_count g f b l st k
          have humore := unseen_more (dfsTo_more g f b l st k)
          have hs := HS.out
          have hih := ih m (dfsTo g f b l st k) wr HK.out (by omega) hmg hsf (by omega)
          rw [← HX.out] at hih
          have HI := Lib.hid hih
          clear hih hsf hcnt humore hs hv HX
          go_wp2_with fail
          refine HI.out.mono ?_
          rintro e w2 ⟨rfl, hv2⟩
          have HN := Lib.hid hv2
          clear hv2 HI
          go_wp2
          go_roundg (gk - 1)
          case measure => omega
          case rel => exact ⟨k + 1, by omega, by go_num, HN⟩
      · obtain rfl : k = l.length := by omega
        have hcnt := dfsTo_count g f b l st l.length
        have hs := HS.out
        obtain ⟨oa, oc, hxc, hlw⟩ := HK.out.o
        have hcap : (dfsTo g f b l st l.length).2.length + 1 ≤ 1048577 := by omega
        have hszw := HK.out.below.size
        have hxx : wr.cell? ⟨xb, 0, none⟩ = some (.slice oa (dfsTo g f b l st l.length).2.length oc) := cell_of_row _ _ 0 _ _ _ hxc
        have HXC := Lib.hid hxc
        have hal : Below wr.heap.size wr (wr.alloc (.cells #[.int .i64 (b : Int)] 3)) := (Below.refl _ _).alloc (Nat.le_refl _) _
        have HVA := Lib.hid (HK.out.later hal)
        have hxlt : xb < wr.heap.size := (Array.getElem?_eq_some_iff.1 hxc).1
        clear hcnt hs hxc
        go_wp2_with (at_builtin; refine app_ints rfl (.tmp 31) (.tmp 33) rfl w0.heap.size _ (dfsTo g f b l st l.length).2.length _ rfl (hlw.alloc _) _ 1 _ [(b : Int)] rfl rfl (rowAt_one _ _ _) (by rintro ⟨⟩) (by omega) (by simp; omega) ?_; intro a5 c5 w5 hown5 hg5 hlies5; (have hp := HVA.out.push (hlw.alloc _) ⟨_, (heap_alloc_old wr _ hxlt).trans HXC.out⟩ hown5 hg5); (obtain ⟨⟨cu, hcu⟩, hpv⟩ := hp); (have hx5 : w5.cell? ⟨xb, 0, none⟩ = some cu := cell_of_row _ _ 0 _ _ _ hcu); (have hf5 := frozen_of_row w5 xb 0 _ _ hcu); (have HPV := Lib.hid hpv); clear hpv hcu)
        go_end0
        exact ⟨rfl, HPV.out⟩

end Go.Proofs.Ytkhnhdgbbjppeaa
