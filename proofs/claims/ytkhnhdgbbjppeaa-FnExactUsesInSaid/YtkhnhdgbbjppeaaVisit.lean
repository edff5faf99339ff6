
/-
  The reference's visit in depth computes 'dfs'.
-/
import Derived.Test.YtkhnhdgbbjppeaaGr
import Derived.Test.YtkhnhdgbbjppeaaTurn
import Derived.Test.YtkhnhdgbbjppeaaInsert
import Derived.StillTailTactics
namespace Go.Proofs.Ytkhnhdgbbjppeaa
open Go.RowKit

theorem own_apart {w : World} {base base' size size' n n' : Nat} {e e' : TypeId} {v v' : Value} {xs xs' : List Value} (h : w.ownsRow base e size v n xs) (h' : w.ownsRow base' e' size' v' n' xs') (hne : e ≠ e') {k : Nat} (hk : v.ownBlock = some k) : v'.ownBlock ≠ some k := by
  intro hk'
  rcases h.2 with ⟨rfl, _⟩ | ⟨g, cap, cur, rfl, _, hg, _⟩
  · simp [Value.ownBlock] at hk
  · rcases h'.2 with ⟨rfl, _⟩ | ⟨g', cap', cur', rfl, _, hg', _⟩
    · simp [Value.ownBlock] at hk'
    · simp only [Value.ownBlock, Option.some.injEq] at hk hk'
      subst hk; subst hk'
      rw [hg] at hg'
      simp at hg'
      exact hne hg'.2

theorem dfs_count (g : List (List Int)) : ∀ (f : Nat) (n : Int) (st : St), (dfs g f n st).2.length + unseen (dfs g f n st).1 = st.2.length + unseen st.1
  | 0, _, _ => rfl
  | f + 1, n, st => by
    unfold dfs
    split
    · rfl
    · rename_i hs
      have hs : seenAt st.1 n = false := by simpa using hs
      have hun := unseen_set (seenAt_false hs)
      have key : ∀ (l : List Int) (st1 : St), (l.foldl (fun st m => dfs g f m st) st1).2.length + unseen (l.foldl (fun st m => dfs g f m st) st1).1 = st1.2.length + unseen st1.1 := by
        intro l
        induction l with
        | nil => intro st1; rfl
        | cons x l ih => intro st1; rw [List.foldl_cons, ih, dfs_count g f x st1]
      have := key (g.getD n.toNat []) (st.1.set n.toNat true, st.2)
      simp only [List.length_append, List.length_cons, List.length_nil] at this ⊢
      omega
/-- Behind the first k of the Next of b. -/
def dfsTo (g : List (List Int)) (f : Nat) (b : Nat) (l : List Int) (st : St) (k : Nat) : St := (l.take k).foldl (fun st m => dfs g f m st) (st.1.set b true, st.2)
theorem dfsTo_succ {g : List (List Int)} {f b : Nat} {l : List Int} {st : St} {k : Nat} {x : Int} (h : l[k]? = some x) : dfsTo g f b l st (k + 1) = dfs g f x (dfsTo g f b l st k) := by
  rw [dfsTo, take_succ_of h, List.foldl_append]; rfl
theorem dfsTo_more (g : List (List Int)) (f b : Nat) (l : List Int) (st : St) (k : Nat) : More (st.1.set b true) (dfsTo g f b l st k).1 := foldl_more (F := fun st m => dfs g f m st) (fun st m => dfs_more g f m st) (l.take k) (st.1.set b true, st.2)
theorem dfsTo_count (g : List (List Int)) (f b : Nat) (l : List Int) (st : St) (k : Nat) : (dfsTo g f b l st k).2.length + unseen (dfsTo g f b l st k).1 = st.2.length + unseen (st.1.set b true) := by
  unfold dfsTo
  generalize l.take k = l'
  have key : ∀ (l : List Int) (st1 : St), (l.foldl (fun st m => dfs g f m st) st1).2.length + unseen (l.foldl (fun st m => dfs g f m st) st1).1 = st1.2.length + unseen st1.1 := by
    intro l
    induction l with
    | nil => intro st1; rfl
    | cons x l ih => intro st1; rw [List.foldl_cons, ih, dfs_count g f x st1]
  exact key l' _
theorem dfs_all {g : List (List Int)} {f b : Nat} {l : List Int} {st : St} (hl : g[b]? = some l) (hs : seenAt st.1 (b : Int) = false) : dfs g (f + 1) (b : Int) st = ((dfsTo g f b l st l.length).1, (dfsTo g f b l st l.length).2 ++ [(b : Int)]) := by
  rw [dfs, if_neg (by simp [hs]), dfsTo, List.take_length]
  simp [hl]

theorem dfs_seen {g : List (List Int)} {n : Int} {st : St} (h : seenAt st.1 n = true) : ∀ f, dfs g f n st = st
  | 0 => rfl
  | f + 1 => by rw [dfs, if_pos h]

/-- What the call has left: the row of seen blocks and the list, both its own; no other old block has changed. -/
structure Visited (base : Nat) (n sb : Nat) (ov : Value) (w : World) (st : St) (oa : Option Addr) (oc : Nat) (w' : World) : Prop where
  seen : w'.ownsRow base 4 1 (.slice (some ⟨sb, 0, none⟩) n n) n (st.1.map Value.bool)
  list : w'.ownsRow base 3 1 (.slice oa st.2.length oc) st.2.length (st.2.map (Value.int .i64))
  turned : Turned (fun k => k = sb ∨ ov.ownBlock = some k) w w'
  fresh : ∀ k, (Value.slice oa st.2.length oc).ownBlock = some k → ov.ownBlock = some k ∨ w.heap.size ≤ k

theorem Visited.step {base n sb : Nat} {ov : Value} {w w1 w2 : World} {st st' : St} {oa oa' : Option Addr} {oc oc' : Nat} (h : Visited base n sb ov w st oa oc w1) (k : Visited base n sb (.slice oa st.2.length oc) w1 st' oa' oc' w2) : Visited base n sb ov w st' oa' oc' w2 where
  seen := k.seen
  list := k.list
  turned := ⟨k.turned.os.trans h.turned.os, k.turned.tape.trans h.turned.tape, k.turned.output.trans h.turned.output, Nat.le_trans h.turned.size k.turned.size, fun j hj hn => (k.turned.block j (Nat.lt_of_lt_of_le hj h.turned.size) (fun e => by
    rcases e with e | e
    · exact hn (.inl e)
    · rcases h.fresh j e with e | e
      · exact hn (.inr e)
      · omega)).trans (h.turned.block j hj hn)⟩
  fresh := fun j hj => by
    rcases k.fresh j hj with e | e
    · exact h.fresh j e
    · exact .inr (Nat.le_trans h.turned.size e)
theorem Visited.from {base n sb : Nat} {ov : Value} {w w1 w2 : World} {st : St} {oa : Option Addr} {oc : Nat} (ht : Turned (fun k => k = sb) w w1) (k : Visited base n sb ov w1 st oa oc w2) : Visited base n sb ov w st oa oc w2 :=
  ⟨k.seen, k.list, (ht.mono (fun _ h => .inl h)).trans k.turned, fun j hj => (k.fresh j hj).imp_right (fun e => Nat.le_trans ht.size e)⟩
theorem Visited.drew {base n sb : Nat} {ov : Value} {w w1 : World} {st : St} {oa : Option Addr} {oc : Nat} (h : Visited base n sb ov w st oa oc w1) : Visited base n sb ov w st oa oc w1.drew :=
  ⟨h.seen, h.list, ⟨h.turned.os, h.turned.tape, h.turned.output, h.turned.size, h.turned.block⟩, h.fresh⟩

set_option maxRecDepth 100000 in
set_option maxHeartbeats 2000000 in
theorem l10Visit_any (g : List (List Int)) (hf : Fits g) (p r : Int) (ba : Option Addr) (bc : Nat) (w0 : World) (hg : Gr w0 ba g) (sb : Nat) : ∀ (f b : Nat) (st : St) (oa : Option Addr) (oc : Nat) (w : World), Below w0.heap.size w0 w →
    w.ownsRow w0.heap.size 4 1 (.slice (some ⟨sb, 0, none⟩) g.length g.length) g.length (st.1.map Value.bool) →
    w.ownsRow w0.heap.size 3 1 (.slice oa st.2.length oc) st.2.length (st.2.map (Value.int .i64)) → st.2.length + unseen st.1 ≤ 1048576 → b < g.length → seenAt st.1 (b : Int) = false → unseen st.1 ≤ f →
    Calls Try.prog 126 #[.agg #[.int .i64 p, .int .i64 r, .slice ba g.length bc], .int .i64 (b : Int), .slice (some ⟨sb, 0, none⟩) g.length g.length, .slice oa st.2.length oc] w fun e w' =>
      ∃ oa' oc', e = .returned (.slice oa' (dfs g f b st).2.length oc') ∧ Visited w0.heap.size g.length sb (.slice oa st.2.length oc) w (dfs g f b st) oa' oc' w' := by
  intro f
  induction f with
  | zero =>
    intro b st oa oc w hb hsn hls hcap hbg hun huf
    have := unseen_set (seenAt_false hun)
    omega
  | succ f ih =>
    intro b st oa oc w hb hsn hls hcap hbg hun huf
    have hlen := hg.len
    have hunb := unseen_set (seenAt_false hun)
    have hunb : unseen st.1 = unseen (st.1.set b true) + 1 := hunb
    have hgl : g[b]? = some (g[b]'hbg) := List.getElem?_eq_getElem _
    have hda := dfs_all (f := f) hgl hun
    have hll := hg.row hgl
    generalize g[b]'hbg = l at hgl hda hll
    rw [hda]
    have HS := Lib.hid (And.intro hgl (And.intro hun (And.intro hunb (And.intro huf (And.intro hcap (hf.inn b l hgl))))))
    have hbsz := hb.size
    have hslt := (hsn.lt sb rfl).2
    have hslo := (hsn.lt sb rfl).1
    have hsl : st.1.length = g.length := by have := hsn.1; simpa using this
    have hcb : w.cell? ⟨sb, b, none⟩ = some (.bool false) := by
      rw [hsn.cellAt b (by omega), List.getElem?_map]
      have := seenAt_false hun
      simp only [Int.toNat_natCast] at this
      rw [this]; rfl
    have hfb := hsn.frozenAt b
    have H1 : ∃ W1, W1 = (w.setCell ⟨sb, b, none⟩ (.bool true)).alloc (.cells #[.int .i64 p, .int .i64 r, .slice ba g.length bc] 51) := ⟨_, rfl⟩
    obtain ⟨W1, hW1⟩ := H1
    have hturn1 : Turned (fun k => k = sb) w W1 := by
      rw [hW1]
      exact (turned_of_grown (hsn.stored b (.bool true)).2 (fun k hk => by cases hk; rfl)).trans (turned_of_grown (World.grownBy_alloc _ _ none) (fun k hk => by cases hk))
    have hC1 : W1.heap[w.heap.size]? = some (.cells #[.int .i64 p, .int .i64 r, .slice ba g.length bc] 51 (0, 0)) := by
      have := heap_alloc_new (w.setCell ⟨sb, b, none⟩ (.bool true)) (.cells #[.int .i64 p, .int .i64 r, .slice ba g.length bc] 51)
      rw [World.size_setCell] at this
      rw [hW1]
      exact this
    have hsz1 : W1.heap.size = w.heap.size + 1 := by rw [hW1]; simp
    have hseen1 : W1.ownsRow w0.heap.size 4 1 (.slice (some ⟨sb, 0, none⟩) g.length g.length) g.length ((st.1.set b true).map Value.bool) := by
      rw [hW1, List.map_set]
      exact (hsn.stored b (.bool true)).1.alloc _
    have hlist1 : W1.ownsRow w0.heap.size 3 1 (.slice oa st.2.length oc) st.2.length (st.2.map (Value.int .i64)) :=
      own_turned hls hturn1 (fun k hk e => by subst e; exact own_apart hsn hls (by decide) rfl hk)
    have hb1 : Below w0.heap.size w0 W1 := hb.trans (hturn1.below hbsz (fun k hk => by omega))
    have hlslt := hls.lt
    have H0 := Lib.hid (And.intro hturn1 (And.intro hC1 (And.intro hsz1 (And.intro hb1 hlslt))))
    have HV : Visited w0.heap.size g.length sb (.slice oa st.2.length oc) W1 (dfsTo g f b l st 0) oa oc W1 := ⟨hseen1, hlist1, Turned.refl _ _, fun k hk => .inl hk⟩
    have HV := Lib.hid HV
    have HW1 := Lib.hid hW1
    clear hW1 hturn1 hC1 hsz1 hseen1 hlist1 hb1 hlslt hun hunb huf hcap hgl hda hls hsn
    go_enter Try.func126, Try.ntmps126
    go_wp2
    rw [← HW1.out]
    clear HW1
    go_loopw [3, 9] (fun o i wr => ∃ k : Nat, k ≤ l.length ∧ i = .int .i64 k ∧ ∃ oa' oc', o = .slice oa' (dfsTo g f b l st k).2.length oc' ∧
      Hid (Visited w0.heap.size g.length sb (.slice oa st.2.length oc) W1 (dfsTo g f b l st k) oa' oc' wr)) (fun _ i _ => l.length - (intOf i).toNat)
    case atStart => exact ⟨0, Nat.zero_le _, rfl, oa, oc, rfl, HV⟩
    case round =>
      obtain ⟨k, hk, rfl, oa', oc', rfl, HK⟩ := hrel
      clear HV
      have hCr : wr.heap[w.heap.size]? = some (.cells #[.int .i64 p, .int .i64 r, .slice ba g.length bc] 51 (0, 0)) := by
        have h0 := H0.out
        rw [HK.out.turned.block w.heap.size (by omega) (fun h => by
          rcases h with h | h
          · omega
          · have := (h0.2.2.2.2 _ h).2; omega)]
        exact h0.2.1
      have hbwr : Below w0.heap.size w0 wr := by
        have h0 := H0.out
        refine h0.2.2.2.1.trans (HK.out.turned.below (by omega) (fun j hj => ?_))
        rcases hj with h | h
        · omega
        · exact (h0.2.2.2.2 _ h).1
      have hk0 : wr.cell? ⟨w.heap.size, 0, none⟩ = some (.int .i64 p) := cell_of_row _ _ 0 _ _ _ hCr
      have hk1 : wr.cell? ⟨w.heap.size, 1, none⟩ = some (.int .i64 r) := cell_of_row _ _ 1 _ _ _ hCr
      have hk2 : wr.cell? ⟨w.heap.size, 2, none⟩ = some (.slice ba g.length bc) := cell_of_row _ _ 2 _ _ _ hCr
      clear hCr
      obtain ⟨bb, boff, l', na, nc, rfl, hl', hc4, hi⟩ := (hg.later hbwr).place hbg
      obtain rfl : l = l' := by have := HS.out.1; rw [this] at hl'; cases hl'; rfl
      clear hl'
      by_cases hlt : k < l.length
      · obtain ⟨b2, off2, x, rfl, hx, hcx⟩ := hi.place hlt
        have hxr := HS.out.2.2.2.2.2 x (List.mem_of_getElem? hx)
        obtain ⟨m, rfl⟩ : ∃ m : Nat, x = (m : Int) := ⟨x.toNat, by omega⟩
        have hmg : m < g.length := by omega
        have hdl : (dfsTo g f b l st k).1.length = g.length := by have := (dfsTo_more g f b l st k).length; rw [this]; simpa using hsl
        obtain ⟨v, hv⟩ : ∃ v, (dfsTo g f b l st k).1[m]? = some v := ⟨_, List.getElem?_eq_getElem (by omega)⟩
        have hcv : wr.cell? ⟨sb, m, none⟩ = some (.bool v) := by
          rw [HK.out.seen.cellAt m (by omega), List.getElem?_map, hv]; rfl
        have HX := Lib.hid (dfsTo_succ (g := g) (f := f) (b := b) (st := st) hx)
        have HB := Lib.hid hbwr
        clear hx hxr hbwr hi
        cases v with
        | true =>
          have hds : dfsTo g f b l st (k + 1) = dfsTo g f b l st k := by
            rw [HX.out]
            exact dfs_seen (by unfold seenAt; rw [List.getD_eq_getElem?_getD, Int.toNat_natCast, hv]; rfl) f
          have HD := Lib.hid hds
          clear hds hv
          go_wp2
          go_roundw
          case rel => exact ⟨k + 1, by omega, by go_num, oa', oc', by rw [HD.out], by rw [HD.out]; exact HK⟩
          case measure => simp [intOf]; omega
        | false =>
          have hsf : seenAt (dfsTo g f b l st k).1 (m : Int) = false := by unfold seenAt; rw [List.getD_eq_getElem?_getD, Int.toNat_natCast, hv]; rfl
          have hcnt := dfsTo_count g f b l st k
          have humore := unseen_more (dfsTo_more g f b l st k)
          have hs := HS.out
          have hih := ih m (dfsTo g f b l st k) oa' oc' wr.drew HB.out.drew HK.out.seen HK.out.list (by omega) hmg hsf (by omega)
          rw [← HX.out] at hih
          have HI := Lib.hid hih
          clear hih hsf hcnt humore hs hv HX
          go_wp2_with fail
          go_still_tail 12, (by kernel_rfl)
          have HK2 := Lib.hid HK.out.drew
          change wpList _ _ _ _ _ wr.drew
          generalize wr.drew = wd at HI HK2 ⊢
          go_wp2_with fail
          refine HI.out.mono ?_
          rintro e w2 ⟨oa2, oc2, rfl, hv2⟩
          have HN := Lib.hid (HK2.out.step hv2)
          clear hv2 HI HK2
          go_wp2
          go_roundw
          case rel => exact ⟨k + 1, by omega, by go_num, oa2, oc2, rfl, HN⟩
          case measure => simp [intOf]; omega
      · obtain rfl : k = l.length := by omega
        have hcnt := dfsTo_count g f b l st l.length
        have hs := HS.out
        have hlw := HK.out.list
        have hcap : (dfsTo g f b l st l.length).2.length + 1 ≤ 1048577 := by omega
        have hszw := hbwr.size
        clear hcnt hs
        go_wp2_with (at_builtin; refine app_ints rfl (.tmp 50) (.tmp 52) rfl w0.heap.size _ (dfsTo g f b l st l.length).2.length _ rfl (hlw.alloc _) _ 1 _ [(b : Int)] rfl rfl (rowAt_one _ _ _) (by rintro ⟨⟩) (by omega) (by simp; omega) ?_; intro a5 c5 w5 hown5 hg5 hlies5)
        go_ret
        have hseen5 := own_turned (S := fun k => (Value.slice oa' (dfsTo g f b l st l.length).2.length oc').ownBlock = some k) (HK.out.seen.alloc _) (turned_of_grown hg5 (fun k hk => hk)) (fun k hk => own_apart (HK.out.seen) hlw (by decide) hk)
        have hstep : Visited w0.heap.size g.length sb (.slice oa' (dfsTo g f b l st l.length).2.length oc') wr ((dfsTo g f b l st l.length).1, (dfsTo g f b l st l.length).2 ++ [(b : Int)]) a5 c5 w5 := by
          refine ⟨hseen5, ?_, ?_, ?_⟩
          · simp only [List.length_append, List.length_cons, List.length_nil, List.map_append, List.map_cons, List.map_nil]
            exact hown5
          · exact ((turned_of_grown (World.grownBy_alloc wr _ none) (fun k hk => by cases hk)).trans (turned_of_grown hg5 (fun k hk => hk))).mono (fun k hk => .inr hk)
          · intro j hj
            simp only [List.length_append, List.length_cons, List.length_nil] at hj
            rcases hlies5 with e | e
            · rw [e] at hj; exact .inl hj
            · rw [e] at hj; cases hj; exact .inr (by simp)
        refine ⟨a5, c5, ?_, Visited.from H0.out.1 (HK.out.step hstep)⟩
        simp only [List.length_append, List.length_cons, List.length_nil]
        rfl

end Go.Proofs.Ytkhnhdgbbjppeaa
