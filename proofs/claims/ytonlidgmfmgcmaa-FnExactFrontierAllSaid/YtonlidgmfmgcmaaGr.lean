
/-
  A code read as a graph; the reference's test whether it is one.
-/
import Derived.Test.YtonlidgmfmgcmaaUnitEq
import Derived.Test.YtonlidgmfmgcmaaGraph
import Derived.Test.YtonlidgmfmgcmaaBase
import Derived.Test.YtonlidgmfmgcmaaCore
import Derived.StillTailTactics

namespace Go.Proofs.Ytonlidgmfmgcmaa
open Go.RowKit

/-- The blocks behind a slice lead to one another as g says. -/
structure Gr (w : World) (ba : Option Addr) (g : List (List Int)) : Prop where
  small : g.length + (g.map List.length).sum ≤ 1048576
  rd : ∃ bs : List BlockD, SliceRd 5 BlockR w ba bs.length bs ∧ g = bs.map (·.nx)
theorem Gr.later {w w' : World} {ba : Option Addr} {g : List (List Int)} (h : Gr w ba g) (hb : Below w.heap.size w w') : Gr w' ba g := by
  obtain ⟨h1, bs, h2, h3⟩ := h
  exact ⟨h1, bs, h2.later blockR_lasts hb, h3⟩
theorem Gr.place2 {w : World} {ba : Option Addr} {g : List (List Int)} (h : Gr w ba g) {i : Nat} (hi : i < g.length) :
    ∃ b off l na nc, ba = some ⟨b, off, none⟩ ∧ g[i]? = some l ∧ w.cell? ⟨b, off + i * 5 + 4, none⟩ = some (.slice na l.length nc) ∧ IntsRd w na l.length l ∧ (na = none → nc = 0) := by
  obtain ⟨_, bs, h2, rfl⟩ := h
  obtain ⟨b, off, phis, ins, jump, jon, nx, pa, pc, ia, ic, na, nc, rfl, hx, c0, c1, c2, c3, c4, hr⟩ := block_place h2 (i := i) (by simpa using hi)
  obtain ⟨_, _, _, _, _, _, hcs, _, _, ⟨_, hnil⟩, hrd⟩ := hr
  simp only [List.cons.injEq, Value.slice.injEq, and_true, true_and] at hcs
  obtain ⟨_, _, rfl, rfl⟩ := hcs
  exact ⟨b, off, nx, _, _, rfl, by rw [List.getElem?_map, hx]; rfl, c4, hrd, hnil⟩
theorem Gr.place {w : World} {ba : Option Addr} {g : List (List Int)} (h : Gr w ba g) {i : Nat} (hi : i < g.length) :
    ∃ b off l na nc, ba = some ⟨b, off, none⟩ ∧ g[i]? = some l ∧ w.cell? ⟨b, off + i * 5 + 4, none⟩ = some (.slice na l.length nc) ∧ IntsRd w na l.length l := by
  obtain ⟨b, off, l, na, nc, h1, h2, h3, h4, _⟩ := h.place2 hi
  exact ⟨b, off, l, na, nc, h1, h2, h3, h4⟩
theorem Gr.len {w : World} {ba : Option Addr} {g : List (List Int)} (h : Gr w ba g) : g.length ≤ 1048576 := by have := h.small; omega
theorem Gr.row {w : World} {ba : Option Addr} {g : List (List Int)} (h : Gr w ba g) {i : Nat} {l : List Int} (hl : g[i]? = some l) : l.length ≤ 1048576 := by
  have h1 := h.small
  have h2 : l.length ∈ g.map List.length := List.mem_map_of_mem (List.mem_of_getElem? hl)
  have h3 := sumOf_mem (sz := List.length) (List.mem_of_getElem? hl)
  unfold sumOf at h3
  omega
def nxs (x : CodeD) : List (List Int) := x.blocks.map (·.nx)
theorem nxs_sum : ∀ bs : List BlockD, ((bs.map (·.nx)).map List.length).sum ≤ sumOf szBlockD bs
  | [] => Nat.le_refl _
  | b :: bs => by
    have := nxs_sum bs
    unfold sumOf at this ⊢
    simp only [List.map_cons, List.sum_cons, szBlockD] at this ⊢
    omega
theorem gr_of_code {w : World} {cs : List Value} {x : CodeD} (h : CodeR w cs x) (hs : szCodeD x ≤ 1048576) : ∃ ba bc, cs = [.int .i64 x.params, .int .i64 x.regs, .slice ba (nxs x).length bc] ∧ Gr w ba (nxs x) := by
  obtain ⟨ba, bc, rfl, _, hr⟩ := h
  have hl : (nxs x).length = x.blocks.length := by simp [nxs]
  refine ⟨ba, bc, by rw [hl], ⟨?_, x.blocks, hr, rfl⟩⟩
  have := nxs_sum x.blocks
  unfold szCodeD szS at hs
  rw [hl]
  unfold nxs
  omega

theorem l1In_any (x lo hi : Int) (w : World) : Calls Try.prog 24 #[.int .i64 x, .int .i64 lo, .int .i64 hi] w fun e w' => e = .returned (.bool (decide (lo ≤ x) && decide (x ≤ hi))) ∧ w = w' := by
  by_cases h1 : lo ≤ x
  · have d1 : decide (lo ≤ x) = true := decide_eq_true h1
    by_cases h2 : x ≤ hi
    · have d2 : decide (x ≤ hi) = true := decide_eq_true h2
      go_enter Try.func24, Try.ntmps24
      go_wp2
      go_ret
      exact ⟨by rw [d1, d2]; rfl, rfl⟩
    · have d2 : decide (x ≤ hi) = false := decide_eq_false h2
      go_enter Try.func24, Try.ntmps24
      go_wp2
      go_ret
      exact ⟨rfl, rfl⟩
  · have d1 : decide (lo ≤ x) = false := decide_eq_false h1
    go_enter Try.func24, Try.ntmps24
    go_wp2
    go_ret
    exact ⟨rfl, rfl⟩
theorem l1In_same (x lo hi : Int) (w : World) : Calls Try.prog 24 #[.int .i64 x, .int .i64 lo, .int .i64 hi] w fun e w' => e = .returned (.bool (decide (lo ≤ x) && decide (x ≤ hi))) ∧ w' = w :=
  (l1In_any x lo hi w).mono fun _ _ ⟨he, hw⟩ => ⟨he, hw.symm⟩

set_option maxRecDepth 100000 in
set_option maxHeartbeats 1000000 in
theorem l10Fits_any (p r : Int) (ba : Option Addr) (bc : Nat) (g : List (List Int)) (w : World) (hg : Gr w ba g) :
    Calls Try.prog 15 #[.agg #[.int .i64 p, .int .i64 r, .slice ba g.length bc]] w fun e w' => e = .returned (.bool (fits g)) ∧ Below w.heap.size w w' := by
  have HW := Lib.hid ((Below.refl w.heap.size w).alloc (Nat.le_refl _) (.cells #[.int .i64 p, .int .i64 r, .slice ba g.length bc] 30))
  have hcl : (w.alloc (.cells #[.int .i64 p, .int .i64 r, .slice ba g.length bc] 30)).cell? ⟨w.heap.size, 2, none⟩ = some (.slice ba g.length bc) := cell_of_row _ _ 2 _ _ _ (heap_alloc_new w _)
  have HC := Lib.hid hcl
  have hlen := hg.len
  clear hcl
  go_enter Try.func15, Try.ntmps15
  go_wp2
  generalize w.alloc (.cells #[.int .i64 p, .int .i64 r, .slice ba g.length bc] 30) = W0 at HW HC ⊢
  have hg0 := hg.later HW.out
  go_loopw [3] (fun b wr => ∃ k : Nat, k ≤ g.length ∧ b = .int .i64 k ∧ Hid (∀ l ∈ g.take k, l.all (okN g.length) = true) ∧ Below W0.heap.size W0 wr) (fun b _ => g.length - (intOf b).toNat)
  case atStart => exact ⟨0, Nat.zero_le _, rfl, Lib.hid (by simp), Below.refl _ _⟩
  case round =>
    obtain ⟨k, hk, rfl, HK, hbr⟩ := hrel
    have hcr := cell_later hbr HC.out
    by_cases hlt : k < g.length
    · obtain ⟨b, off, l, na, nc, rfl, hl, hc4, hi⟩ := (hg0.later hbr).place hlt
      have hll := hg.row hl
      have HL := Lib.hid hl
      clear hl
      go_wp2
      go_loopw [4] (fun j ws => ∃ i : Nat, i ≤ l.length ∧ j = .int .i64 i ∧ Hid ((l.take i).all (okN g.length) = true) ∧ Below wr.heap.size wr ws) (fun j _ => l.length - (intOf j).toNat)
      case atStart => exact ⟨0, Nat.zero_le _, rfl, Lib.hid rfl, Below.refl _ _⟩
      case round =>
        obtain ⟨i, hil, rfl, HI, hbs⟩ := hrel
        have hcr2 := cell_later hbs hcr
        have hc42 := cell_later hbs hc4
        by_cases hlt2 : i < l.length
        · obtain ⟨b2, off2, x, rfl, hx, hcx⟩ := (hi.later hbs).place hlt2
          have HX := Lib.hid hx
          clear hx
          by_cases hok : okN g.length x = true
          · have hok2 := okN_iff.1 hok
            have d1 : decide ((0 : Int) ≤ x) = true := decide_eq_true hok2.1
            have d2 : decide (x ≤ (g.length : Int) - 1) = true := decide_eq_true (by omega)
            have HH := Lib.hid (And.intro HI.out (And.intro HX.out hok))
            clear hok hok2 HI HX
            go_wp2_with fail
            go_quiet (exact Calls.quiet_of_same (l1In_same _ _ _ _))
            go_wp2
            go_roundw
            case rel => exact ⟨i + 1, by omega, by go_num, Lib.hid (by rw [take_succ_of HH.out.2.1, List.all_append, HH.out.1, List.all_cons, HH.out.2.2]; rfl), below_drewN hbs _⟩
            case measure => simp [intOf]; omega
          · have hfalse : fits g = false := by
              cases hf : fits g with
              | false => rfl
              | true => exact absurd (okN_iff.2 ((fits_iff.1 hf).inn _ _ HL.out x (List.mem_of_getElem? HX.out))) hok
            have d0 : (decide ((0 : Int) ≤ x) && decide (x ≤ (g.length : Int) - 1)) = false := by simpa [okN] using hok
            have HF := Lib.hid hfalse
            clear hfalse hok
            go_wp2_with fail
            go_quiet (exact Calls.quiet_of_same (l1In_same _ _ _ _))
            go_wp2
            go_ret
            exact ⟨by rw [HF.out]; rfl, HW.out.trans (below_drewN ((hbr.trans (hbs.mono hbr.size)).mono HW.out.size) _)⟩
        · obtain rfl : i = l.length := by omega
          have HA := HI.out
          rw [List.take_length] at HA
          have HA2 := Lib.hid HA
          clear HA
          go_wp2
          go_roundw
          case rel => exact ⟨k + 1, by omega, by go_num, Lib.hid (by
            intro l2 hl2
            rw [take_succ_of HL.out] at hl2
            rcases List.mem_append.1 hl2 with h2 | h2
            · exact HK.out l2 h2
            · simp at h2; subst h2; exact HA2.out), hbr.trans (hbs.mono hbr.size)⟩
          case measure => simp [intOf]; omega
    · obtain rfl : k = g.length := by omega
      go_wp2
      go_ret
      have hk2 := HK.out
      rw [List.take_length] at hk2
      refine ⟨?_, HW.out.trans (hbr.mono HW.out.size)⟩
      have : g.all (fun l => l.all (okN g.length)) = true := List.all_eq_true.2 hk2
      refine ret_bool ?_
      rw [fits, this]
      simp

end Go.Proofs.Ytonlidgmfmgcmaa

/-
  The reference's visit in depth computes 'dfs'.
-/
namespace Go.Proofs.Ytonlidgmfmgcmaa
open Go.RowKit

theorem own_apart {w : World} {base base' size size' n n' : Nat} {e e' : TypeId} {v v' : Value} {xs xs' : List Value} (h : w.ownsRow base e size v n xs) (h' : w.ownsRow base' e' size' v' n' xs') (hne : e ≠ e') {k : Nat} (hk : v.ownBlock = some k) : v'.ownBlock ≠ some k := by
  intro hk'
  rcases h.2 with ⟨rfl, _⟩ | ⟨g, cap, cur, rfl, _, hg, _⟩
  · simp [Value.ownBlock] at hk
  · rcases h'.2 with ⟨rfl, _⟩ | ⟨g', cap', cur', rfl, _, hg', _⟩
    · simp [Value.ownBlock] at hk'
    · simp only [Value.ownBlock, Option.some.injEq] at hk hk'
      subst hk; subst hk'
      rw [hg] at hg'
      simp at hg'
      exact hne hg'.2

theorem dfs_count (g : List (List Int)) : ∀ (f : Nat) (n : Int) (st : St), (dfs g f n st).2.length + unseen (dfs g f n st).1 = st.2.length + unseen st.1
  | 0, _, _ => rfl
  | f + 1, n, st => by
    unfold dfs
    split
    · rfl
    · rename_i hs
      have hs : seenAt st.1 n = false := by simpa using hs
      have hun := unseen_set (seenAt_false hs)
      have key : ∀ (l : List Int) (st1 : St), (l.foldl (fun st m => dfs g f m st) st1).2.length + unseen (l.foldl (fun st m => dfs g f m st) st1).1 = st1.2.length + unseen st1.1 := by
        intro l
        induction l with
        | nil => intro st1; rfl
        | cons x l ih => intro st1; rw [List.foldl_cons, ih, dfs_count g f x st1]
      have := key (g.getD n.toNat []) (st.1.set n.toNat true, st.2)
      simp only [List.length_append, List.length_cons, List.length_nil] at this ⊢
      omega
/-- Behind the first k of the Next of b. -/
def dfsTo (g : List (List Int)) (f : Nat) (b : Nat) (l : List Int) (st : St) (k : Nat) : St := (l.take k).foldl (fun st m => dfs g f m st) (st.1.set b true, st.2)
theorem dfsTo_succ {g : List (List Int)} {f b : Nat} {l : List Int} {st : St} {k : Nat} {x : Int} (h : l[k]? = some x) : dfsTo g f b l st (k + 1) = dfs g f x (dfsTo g f b l st k) := by
  rw [dfsTo, take_succ_of h, List.foldl_append]; rfl
theorem dfsTo_more (g : List (List Int)) (f b : Nat) (l : List Int) (st : St) (k : Nat) : More (st.1.set b true) (dfsTo g f b l st k).1 := foldl_more (F := fun st m => dfs g f m st) (fun st m => dfs_more g f m st) (l.take k) (st.1.set b true, st.2)
theorem dfsTo_count (g : List (List Int)) (f b : Nat) (l : List Int) (st : St) (k : Nat) : (dfsTo g f b l st k).2.length + unseen (dfsTo g f b l st k).1 = st.2.length + unseen (st.1.set b true) := by
  unfold dfsTo
  generalize l.take k = l'
  have key : ∀ (l : List Int) (st1 : St), (l.foldl (fun st m => dfs g f m st) st1).2.length + unseen (l.foldl (fun st m => dfs g f m st) st1).1 = st1.2.length + unseen st1.1 := by
    intro l
    induction l with
    | nil => intro st1; rfl
    | cons x l ih => intro st1; rw [List.foldl_cons, ih, dfs_count g f x st1]
  exact key l' _
theorem dfs_all {g : List (List Int)} {f b : Nat} {l : List Int} {st : St} (hl : g[b]? = some l) (hs : seenAt st.1 (b : Int) = false) : dfs g (f + 1) (b : Int) st = ((dfsTo g f b l st l.length).1, (dfsTo g f b l st l.length).2 ++ [(b : Int)]) := by
  rw [dfs, if_neg (by simp [hs]), dfsTo, List.take_length]
  simp [hl]

theorem dfs_seen {g : List (List Int)} {n : Int} {st : St} (h : seenAt st.1 n = true) : ∀ f, dfs g f n st = st
  | 0 => rfl
  | f + 1 => by rw [dfs, if_pos h]

/-- What the call has left: the row of seen blocks and the list, both its own; no other old block has changed. -/
structure Visited (base : Nat) (n sb : Nat) (ov : Value) (w : World) (st : St) (oa : Option Addr) (oc : Nat) (w' : World) : Prop where
  seen : w'.ownsRow base 4 1 (.slice (some ⟨sb, 0, none⟩) n n) n (st.1.map Value.bool)
  list : w'.ownsRow base 3 1 (.slice oa st.2.length oc) st.2.length (st.2.map (Value.int .i64))
  turned : Turned (fun k => k = sb ∨ ov.ownBlock = some k) w w'
  fresh : ∀ k, (Value.slice oa st.2.length oc).ownBlock = some k → ov.ownBlock = some k ∨ w.heap.size ≤ k

theorem Visited.step {base n sb : Nat} {ov : Value} {w w1 w2 : World} {st st' : St} {oa oa' : Option Addr} {oc oc' : Nat} (h : Visited base n sb ov w st oa oc w1) (k : Visited base n sb (.slice oa st.2.length oc) w1 st' oa' oc' w2) : Visited base n sb ov w st' oa' oc' w2 where
  seen := k.seen
  list := k.list
  turned := ⟨k.turned.os.trans h.turned.os, k.turned.tape.trans h.turned.tape, k.turned.output.trans h.turned.output, Nat.le_trans h.turned.size k.turned.size, fun j hj hn => (k.turned.block j (Nat.lt_of_lt_of_le hj h.turned.size) (fun e => by
    rcases e with e | e
    · exact hn (.inl e)
    · rcases h.fresh j e with e | e
      · exact hn (.inr e)
      · omega)).trans (h.turned.block j hj hn)⟩
  fresh := fun j hj => by
    rcases k.fresh j hj with e | e
    · exact h.fresh j e
    · exact .inr (Nat.le_trans h.turned.size e)
theorem Visited.from {base n sb : Nat} {ov : Value} {w w1 w2 : World} {st : St} {oa : Option Addr} {oc : Nat} (ht : Turned (fun k => k = sb) w w1) (k : Visited base n sb ov w1 st oa oc w2) : Visited base n sb ov w st oa oc w2 :=
  ⟨k.seen, k.list, (ht.mono (fun _ h => .inl h)).trans k.turned, fun j hj => (k.fresh j hj).imp_right (fun e => Nat.le_trans ht.size e)⟩
theorem Visited.drew {base n sb : Nat} {ov : Value} {w w1 : World} {st : St} {oa : Option Addr} {oc : Nat} (h : Visited base n sb ov w st oa oc w1) : Visited base n sb ov w st oa oc w1.drew :=
  ⟨h.seen, h.list, ⟨h.turned.os, h.turned.tape, h.turned.output, h.turned.size, h.turned.block⟩, h.fresh⟩

set_option maxRecDepth 100000 in
set_option maxHeartbeats 2000000 in
theorem l10Visit_any (g : List (List Int)) (hf : Fits g) (p r : Int) (ba : Option Addr) (bc : Nat) (w0 : World) (hg : Gr w0 ba g) (sb : Nat) : ∀ (f b : Nat) (st : St) (oa : Option Addr) (oc : Nat) (w : World), Below w0.heap.size w0 w →
    w.ownsRow w0.heap.size 4 1 (.slice (some ⟨sb, 0, none⟩) g.length g.length) g.length (st.1.map Value.bool) →
    w.ownsRow w0.heap.size 3 1 (.slice oa st.2.length oc) st.2.length (st.2.map (Value.int .i64)) → st.2.length + unseen st.1 ≤ 1048576 → b < g.length → seenAt st.1 (b : Int) = false → unseen st.1 ≤ f →
    Calls Try.prog 28 #[.agg #[.int .i64 p, .int .i64 r, .slice ba g.length bc], .int .i64 (b : Int), .slice (some ⟨sb, 0, none⟩) g.length g.length, .slice oa st.2.length oc] w fun e w' =>
      ∃ oa' oc', e = .returned (.slice oa' (dfs g f b st).2.length oc') ∧ Visited w0.heap.size g.length sb (.slice oa st.2.length oc) w (dfs g f b st) oa' oc' w' := by
  intro f
  induction f with
  | zero =>
    intro b st oa oc w hb hsn hls hcap hbg hun huf
    have := unseen_set (seenAt_false hun)
    omega
  | succ f ih =>
    intro b st oa oc w hb hsn hls hcap hbg hun huf
    have hlen := hg.len
    have hunb := unseen_set (seenAt_false hun)
    have hunb : unseen st.1 = unseen (st.1.set b true) + 1 := hunb
    have hgl : g[b]? = some (g[b]'hbg) := List.getElem?_eq_getElem _
    have hda := dfs_all (f := f) hgl hun
    have hll := hg.row hgl
    generalize g[b]'hbg = l at hgl hda hll
    rw [hda]
    have HS := Lib.hid (And.intro hgl (And.intro hun (And.intro hunb (And.intro huf (And.intro hcap (hf.inn b l hgl))))))
    have hbsz := hb.size
    have hslt := (hsn.lt sb rfl).2
    have hslo := (hsn.lt sb rfl).1
    have hsl : st.1.length = g.length := by have := hsn.1; simpa using this
    have hcb : w.cell? ⟨sb, b, none⟩ = some (.bool false) := by
      rw [hsn.cellAt b (by omega), List.getElem?_map]
      have := seenAt_false hun
      simp only [Int.toNat_natCast] at this
      rw [this]; rfl
    have hfb := hsn.frozenAt b
    have H1 : ∃ W1, W1 = (w.setCell ⟨sb, b, none⟩ (.bool true)).alloc (.cells #[.int .i64 p, .int .i64 r, .slice ba g.length bc] 30) := ⟨_, rfl⟩
    obtain ⟨W1, hW1⟩ := H1
    have hturn1 : Turned (fun k => k = sb) w W1 := by
      rw [hW1]
      exact (turned_of_grown (hsn.stored b (.bool true)).2 (fun k hk => by cases hk; rfl)).trans (turned_of_grown (World.grownBy_alloc _ _ none) (fun k hk => by cases hk))
    have hC1 : W1.heap[w.heap.size]? = some (.cells #[.int .i64 p, .int .i64 r, .slice ba g.length bc] 30 (0, 0)) := by
      have := heap_alloc_new (w.setCell ⟨sb, b, none⟩ (.bool true)) (.cells #[.int .i64 p, .int .i64 r, .slice ba g.length bc] 30)
      rw [World.size_setCell] at this
      rw [hW1]
      exact this
    have hsz1 : W1.heap.size = w.heap.size + 1 := by rw [hW1]; simp
    have hseen1 : W1.ownsRow w0.heap.size 4 1 (.slice (some ⟨sb, 0, none⟩) g.length g.length) g.length ((st.1.set b true).map Value.bool) := by
      rw [hW1, List.map_set]
      exact (hsn.stored b (.bool true)).1.alloc _
    have hlist1 : W1.ownsRow w0.heap.size 3 1 (.slice oa st.2.length oc) st.2.length (st.2.map (Value.int .i64)) :=
      own_turned hls hturn1 (fun k hk e => by subst e; exact own_apart hsn hls (by decide) rfl hk)
    have hb1 : Below w0.heap.size w0 W1 := hb.trans (hturn1.below hbsz (fun k hk => by omega))
    have hlslt := hls.lt
    have H0 := Lib.hid (And.intro hturn1 (And.intro hC1 (And.intro hsz1 (And.intro hb1 hlslt))))
    have HV : Visited w0.heap.size g.length sb (.slice oa st.2.length oc) W1 (dfsTo g f b l st 0) oa oc W1 := ⟨hseen1, hlist1, Turned.refl _ _, fun k hk => .inl hk⟩
    have HV := Lib.hid HV
    have HW1 := Lib.hid hW1
    clear hW1 hturn1 hC1 hsz1 hseen1 hlist1 hb1 hlslt hun hunb huf hcap hgl hda hls hsn
    go_enter Try.func28, Try.ntmps28
    go_wp2
    rw [← HW1.out]
    clear HW1
    go_loopw [3, 9] (fun o i wr => ∃ k : Nat, k ≤ l.length ∧ i = .int .i64 k ∧ ∃ oa' oc', o = .slice oa' (dfsTo g f b l st k).2.length oc' ∧
      Hid (Visited w0.heap.size g.length sb (.slice oa st.2.length oc) W1 (dfsTo g f b l st k) oa' oc' wr)) (fun _ i _ => l.length - (intOf i).toNat)
    case atStart => exact ⟨0, Nat.zero_le _, rfl, oa, oc, rfl, HV⟩
    case round =>
      obtain ⟨k, hk, rfl, oa', oc', rfl, HK⟩ := hrel
      clear HV
      have hCr : wr.heap[w.heap.size]? = some (.cells #[.int .i64 p, .int .i64 r, .slice ba g.length bc] 30 (0, 0)) := by
        have h0 := H0.out
        rw [HK.out.turned.block w.heap.size (by omega) (fun h => by
          rcases h with h | h
          · omega
          · have := (h0.2.2.2.2 _ h).2; omega)]
        exact h0.2.1
      have hbwr : Below w0.heap.size w0 wr := by
        have h0 := H0.out
        refine h0.2.2.2.1.trans (HK.out.turned.below (by omega) (fun j hj => ?_))
        rcases hj with h | h
        · omega
        · exact (h0.2.2.2.2 _ h).1
      have hk0 : wr.cell? ⟨w.heap.size, 0, none⟩ = some (.int .i64 p) := cell_of_row _ _ 0 _ _ _ hCr
      have hk1 : wr.cell? ⟨w.heap.size, 1, none⟩ = some (.int .i64 r) := cell_of_row _ _ 1 _ _ _ hCr
      have hk2 : wr.cell? ⟨w.heap.size, 2, none⟩ = some (.slice ba g.length bc) := cell_of_row _ _ 2 _ _ _ hCr
      clear hCr
      obtain ⟨bb, boff, l', na, nc, rfl, hl', hc4, hi⟩ := (hg.later hbwr).place hbg
      obtain rfl : l = l' := by have := HS.out.1; rw [this] at hl'; cases hl'; rfl
      clear hl'
      by_cases hlt : k < l.length
      · obtain ⟨b2, off2, x, rfl, hx, hcx⟩ := hi.place hlt
        have hxr := HS.out.2.2.2.2.2 x (List.mem_of_getElem? hx)
        obtain ⟨m, rfl⟩ : ∃ m : Nat, x = (m : Int) := ⟨x.toNat, by omega⟩
        have hmg : m < g.length := by omega
        have hdl : (dfsTo g f b l st k).1.length = g.length := by have := (dfsTo_more g f b l st k).length; rw [this]; simpa using hsl
        obtain ⟨v, hv⟩ : ∃ v, (dfsTo g f b l st k).1[m]? = some v := ⟨_, List.getElem?_eq_getElem (by omega)⟩
        have hcv : wr.cell? ⟨sb, m, none⟩ = some (.bool v) := by
          rw [HK.out.seen.cellAt m (by omega), List.getElem?_map, hv]; rfl
        have HX := Lib.hid (dfsTo_succ (g := g) (f := f) (b := b) (st := st) hx)
        have HB := Lib.hid hbwr
        clear hx hxr hbwr hi
        cases v with
        | true =>
          have hds : dfsTo g f b l st (k + 1) = dfsTo g f b l st k := by
            rw [HX.out]
            exact dfs_seen (by unfold seenAt; rw [List.getD_eq_getElem?_getD, Int.toNat_natCast, hv]; rfl) f
          have HD := Lib.hid hds
          clear hds hv
          go_wp2
          go_roundw
          case rel => exact ⟨k + 1, by omega, by go_num, oa', oc', by rw [HD.out], by rw [HD.out]; exact HK⟩
          case measure => simp [intOf]; omega
        | false =>
          have hsf : seenAt (dfsTo g f b l st k).1 (m : Int) = false := by unfold seenAt; rw [List.getD_eq_getElem?_getD, Int.toNat_natCast, hv]; rfl
          have hcnt := dfsTo_count g f b l st k
          have humore := unseen_more (dfsTo_more g f b l st k)
          have hs := HS.out
          have hih := ih m (dfsTo g f b l st k) oa' oc' wr.drew HB.out.drew HK.out.seen HK.out.list (by omega) hmg hsf (by omega)
          rw [← HX.out] at hih
          have HI := Lib.hid hih
          clear hih hsf hcnt humore hs hv HX
          go_wp2_with fail
          go_still_tail 12, (by kernel_rfl)
          have HK2 := Lib.hid HK.out.drew
          change wpList _ _ _ _ _ wr.drew
          generalize wr.drew = wd at HI HK2 ⊢
          go_wp2_with fail
          refine HI.out.mono ?_
          rintro e w2 ⟨oa2, oc2, rfl, hv2⟩
          have HN := Lib.hid (HK2.out.step hv2)
          clear hv2 HI HK2
          go_wp2
          go_roundw
          case rel => exact ⟨k + 1, by omega, by go_num, oa2, oc2, rfl, HN⟩
          case measure => simp [intOf]; omega
      · obtain rfl : k = l.length := by omega
        have hcnt := dfsTo_count g f b l st l.length
        have hs := HS.out
        have hlw := HK.out.list
        have hcap : (dfsTo g f b l st l.length).2.length + 1 ≤ 1048577 := by omega
        have hszw := hbwr.size
        clear hcnt hs
        go_wp2_with (at_builtin; refine app_ints rfl (.tmp 50) (.tmp 52) rfl w0.heap.size _ (dfsTo g f b l st l.length).2.length _ rfl (hlw.alloc _) _ 1 _ [(b : Int)] rfl rfl (rowAt_one _ _ _) (by rintro ⟨⟩) (by omega) (by simp; omega) ?_; intro a5 c5 w5 hown5 hg5 hlies5)
        go_ret
        have hseen5 := own_turned (S := fun k => (Value.slice oa' (dfsTo g f b l st l.length).2.length oc').ownBlock = some k) (HK.out.seen.alloc _) (turned_of_grown hg5 (fun k hk => hk)) (fun k hk => own_apart (HK.out.seen) hlw (by decide) hk)
        have hstep : Visited w0.heap.size g.length sb (.slice oa' (dfsTo g f b l st l.length).2.length oc') wr ((dfsTo g f b l st l.length).1, (dfsTo g f b l st l.length).2 ++ [(b : Int)]) a5 c5 w5 := by
          refine ⟨hseen5, ?_, ?_, ?_⟩
          · simp only [List.length_append, List.length_cons, List.length_nil, List.map_append, List.map_cons, List.map_nil]
            exact hown5
          · exact ((turned_of_grown (World.grownBy_alloc wr _ none) (fun k hk => by cases hk)).trans (turned_of_grown hg5 (fun k hk => hk))).mono (fun k hk => .inr hk)
          · intro j hj
            simp only [List.length_append, List.length_cons, List.length_nil] at hj
            rcases hlies5 with e | e
            · rw [e] at hj; exact .inl hj
            · rw [e] at hj; cases hj; exact .inr (by simp)
        refine ⟨a5, c5, ?_, Visited.from H0.out.1 (HK.out.step hstep)⟩
        simp only [List.length_append, List.length_cons, List.length_nil]
        rfl

end Go.Proofs.Ytonlidgmfmgcmaa

/-
  Rows of truth values, and slices of such rows: how they read, how they are owned and filled.
-/
namespace Go.Proofs.Ytonlidgmfmgcmaa
open Go.RowKit

theorem info_bool : (Try.prog.info? 4).map (fun i => (i.zero, i.size, i.bytes)) = some (some (.bool false), 1, 1) := by kernel_rfl
theorem und_bools : Try.prog.underlying 60 = some (.slice 4) := by kernel_rfl
theorem info_bools : (Try.prog.info? 60).map (fun i => (i.zero, i.size, i.bytes)) = some (some (.slice none 0 0), 1, 24) := by kernel_rfl
theorem und_bmat : Try.prog.underlying 41 = some (.slice 60) := by kernel_rfl

/-- A slice value's elements read as a list of truth values. -/
structure BoolsRd (w : World) (a : Option Addr) (len : Nat) (bs : List Bool) : Prop where
  length : bs.length = len
  row : RowAt w a (bs.map Value.bool)
theorem BoolsRd.later {w w' : World} {a : Option Addr} {len : Nat} {bs : List Bool} (h : BoolsRd w a len bs) (hb : Below w.heap.size w w') : BoolsRd w' a len bs := ⟨h.length, h.row.later hb⟩
theorem BoolsRd.place {w : World} {a : Option Addr} {len : Nat} {bs : List Bool} (h : BoolsRd w a len bs) {i : Nat} (hi : i < len) :
    ∃ b off x, a = some ⟨b, off, none⟩ ∧ bs[i]? = some x ∧ w.cell? ⟨b, off + i, none⟩ = some (.bool x) := by
  have hl := h.length
  rcases h.row with h0 | ⟨b, off, rfl, hc⟩
  · have : bs = [] := by simpa using h0
    subst this; simp at hl; omega
  · have hx : bs[i]? = some (bs[i]'(by omega)) := List.getElem?_eq_getElem _
    exact ⟨b, off, _, rfl, hx, hc i _ (by rw [List.getElem?_map, hx]; rfl)⟩
theorem bools_of_own {w : World} {base n cap : Nat} {a : Option Addr} {bs : List Bool} (h : w.ownsRow base 4 1 (.slice a n cap) n (bs.map Value.bool)) : BoolsRd w a n bs :=
  ⟨by have := h.1; simpa using this, rowAt_of_own h⟩
/-- One element of a slice of rows of truth values. -/
def BRowR (w : World) (cs : List Value) (bs : List Bool) : Prop := ∃ a c, cs = [.slice a bs.length c] ∧ BoolsRd w a bs.length bs
theorem bRowR_lasts : Lasts BRowR := by
  rintro w w' cs bs hb ⟨a, c, rfl, h⟩
  exact ⟨a, c, rfl, h.later hb⟩
abbrev BMat (w : World) (a : Option Addr) (len : Nat) (M : List (List Bool)) : Prop := SliceRd 1 BRowR w a len M
theorem BMat.place {w : World} {a : Option Addr} {len : Nat} {M : List (List Bool)} (h : BMat w a len M) {i : Nat} (hi : i < len) :
    ∃ b off ra rc bs, a = some ⟨b, off, none⟩ ∧ M[i]? = some bs ∧ w.cell? ⟨b, off + i, none⟩ = some (.slice ra bs.length rc) ∧ BoolsRd w ra bs.length bs := by
  obtain ⟨b, off, cs, x, rfl, hx, _, hc, ra, rc, rfl, hr⟩ := SliceRd.place h (by decide) hi
  have h0 := hc 0 _ rfl
  rw [Nat.mul_one, Nat.add_zero] at h0
  exact ⟨b, off, ra, rc, x, rfl, hx, h0, hr⟩

/-- A slice of rows of truth values, all of it owned; the rows' cells are whole. -/
structure BMatOwn (w : World) (base : Nat) (a : Option Addr) (len cap : Nat) (M : List (List Bool)) : Prop where
  length : M.length = len
  own : ∃ vals : List Value, w.ownsRow base 60 1 (.slice a len cap) len vals ∧ ∀ (i : Nat) v bs, vals[i]? = some v → M[i]? = some bs → ∃ ra rc, v = .slice ra bs.length rc ∧ w.ownsRow base 4 1 v bs.length (bs.map Value.bool)
theorem flatten_ones {α : Type} : ∀ vs : List α, (vs.map (fun v => [v])).flatten = vs
  | [] => rfl
  | v :: vs => by rw [List.map_cons, List.flatten_cons, flatten_ones vs]; rfl
theorem BMatOwn.rd {w : World} {base len cap : Nat} {a : Option Addr} {M : List (List Bool)} (h : BMatOwn w base a len cap M) : BMat w a len M := by
  obtain ⟨hl, vals, h1, h2⟩ := h
  have hvl : vals.length = len := by have := h1.1; simpa using this
  refine ⟨hl, vals.map (fun v => [v]), ?_, by simp [hvl], by simp, fun i c x hc hx => ?_⟩
  · rw [flatten_ones]
    exact rowAt_of_own h1
  · rw [List.getElem?_map] at hc
    obtain ⟨v, hv, rfl⟩ := Option.map_eq_some_iff.1 hc
    obtain ⟨ra, rc, rfl, h3⟩ := h2 i v x hv hx
    exact ⟨ra, rc, rfl, bools_of_own h3⟩
theorem BMatOwn.below {w w' : World} {base len cap : Nat} {a : Option Addr} {M : List (List Bool)} (h : BMatOwn w base a len cap M) (hb : Below w.heap.size w w') : BMatOwn w' base a len cap M := by
  obtain ⟨hl, vals, h1, h2⟩ := h
  exact ⟨hl, vals, ownsRow_below h1 hb, fun i v bs hv hm => by obtain ⟨ra, rc, rfl, h3⟩ := h2 i v bs hv hm; exact ⟨ra, rc, rfl, ownsRow_below h3 hb⟩⟩
theorem BMatOwn.start {w : World} {base : Nat} (hb : base ≤ w.heap.size) : BMatOwn (w.alloc (.cells #[] 60)) base (some ⟨w.heap.size, 0, none⟩) 0 0 [] :=
  ⟨rfl, [], own_empty _ _ _ _ hb, fun i v bs hv => by simp at hv⟩
theorem BMatOwn.nil (w : World) (base : Nat) : BMatOwn w base none 0 0 [] := ⟨rfl, [], World.ownsRow_nil _ _ _ _, fun i v bs hv => by simp at hv⟩
/-- What an append of a row of the call's own gives. -/
theorem BMatOwn.snoc {w w' : World} {base len cap a2len c' : Nat} {a a' ra : Option Addr} {rc : Nat} {M : List (List Bool)} {bs : List Bool} (h : BMatOwn w base a len cap M) (hr : w.ownsRow base 4 1 (.slice ra bs.length rc) bs.length (bs.map Value.bool))
    (vals : List Value) (hv : w.ownsRow base 60 1 (.slice a len cap) len vals) (h2 : ∀ (i : Nat) v bs, vals[i]? = some v → M[i]? = some bs → ∃ ra rc, v = .slice ra bs.length rc ∧ w.ownsRow base 4 1 v bs.length (bs.map Value.bool))
    (hg : w.grownBy w' (Value.slice a len cap).ownBlock) (hn : w'.ownsRow base 60 1 (.slice a' a2len c') a2len (vals ++ [.slice ra bs.length rc])) (ha2 : a2len = len + 1) : BMatOwn w' base a' a2len c' (M ++ [bs]) := by
  have hvl : vals.length = len := by have := hv.1; simpa using this
  have hkeep : ∀ v (n : Nat) (xs : List Value), w.ownsRow base 4 1 v n xs → w'.ownsRow base 4 1 v n xs := fun v n xs hx =>
    own_turned (S := fun k => (Value.slice a len cap).ownBlock = some k) hx (turned_of_grown hg (fun k hk => hk)) (fun k hk => own_apart hx hv (by decide) hk)
  subst ha2
  refine ⟨by simp [h.length], _, hn, fun i v bs' hi hm => ?_⟩
  rw [List.getElem?_append] at hi hm
  rw [hvl] at hi
  rw [h.length] at hm
  split at hi
  · rename_i hlt
    rw [if_pos hlt] at hm
    obtain ⟨ra', rc', rfl, h3⟩ := h2 i v bs' hi hm
    exact ⟨ra', rc', rfl, hkeep _ _ _ h3⟩
  · rename_i hlt
    rw [if_neg hlt] at hm
    have : i - len = 0 := by have := (List.getElem?_eq_some_iff.1 hi).1; simp at this; omega
    rw [this] at hi hm
    simp at hi hm
    subst hi; subst hm
    exact ⟨ra, rc, rfl, hkeep _ _ _ hr⟩

/-- The next truth value is put into a row of zeros. -/
theorem set_next_bool {bs : List Bool} {k n : Nat} {x : Bool} (h : bs[k]? = some x) (hn : bs.length = n) :
    ((bs.take k).map Value.bool ++ List.replicate (n - k) (Value.bool false)).set k (.bool x) = (bs.take (k + 1)).map Value.bool ++ List.replicate (n - (k + 1)) (Value.bool false) := by
  have hk : k < bs.length := (List.getElem?_eq_some_iff.1 h).1
  rw [List.set_append_right _ _ (by simp; omega), take_succ_of h]
  have h1 : ((bs.take k).map Value.bool).length = k := by simp; omega
  rw [h1, Nat.sub_self, show n - k = (n - (k + 1)) + 1 by omega, List.replicate_succ]
  simp
theorem reach_zero {g : List (List Int)} {v : Nat} : ¬ Reach g 0 v := by
  intro h
  induction h with
  | zero h _ => exact h rfl
  | step _ _ _ _ _ ih => exact ih
theorem reachRow_length (g : List (List Int)) (a : Int) : (reachRow g a).length = g.length := by simp [reachRow]
theorem domRow_length (g : List (List Int)) (a : Nat) : (domRow g a).length = g.length := by simp [domRow]
theorem reachRow_get {g : List (List Int)} {a : Int} {v : Nat} (h : v < g.length) : (reachRow g a)[v]? = some (reachB g a v) := by simp [reachRow, h]
theorem domRow_get {g : List (List Int)} {a v : Nat} (h : v < g.length) : (domRow g a)[v]? = some (domB g a v) := by simp [domRow, h]
theorem domMat_get {g : List (List Int)} {a : Nat} (h : a < g.length) : (domMat g)[a]? = some (domRow g a) := by simp [domMat, h]
/-- A list of truth values that is true where a is reached. -/
theorem eq_reachRow {g : List (List Int)} {a : Int} {s : List Bool} (hl : s.length = g.length) (h : ∀ v : Nat, s[v]? = some true ↔ Reach g a v) : s = reachRow g a := by
  apply List.ext_getElem?
  intro v
  by_cases hv : v < g.length
  · rw [reachRow_get hv]
    have h1 := h v
    rw [List.getElem?_eq_getElem (by omega)] at h1 ⊢
    cases hb : s[v]'(by omega) with
    | true => rw [hb] at h1; rw [reachB_true.2 (h1.1 rfl)]
    | false => rw [hb] at h1; rw [reachB_false.2 (fun hr => by have := h1.2 hr; simp at this)]
  · rw [List.getElem?_eq_none (by omega), List.getElem?_eq_none (by rw [reachRow_length]; omega)]
theorem replicate_get {n v : Nat} : (List.replicate n false)[v]? ≠ some true := by
  rw [List.getElem?_replicate]
  split <;> simp
theorem visit_all {g : List (List Int)} (hg : Fits g) : (dfs g g.length 0 (List.replicate g.length false, [])).1 = reachRow g (-1) := by
  refine eq_reachRow (by rw [(dfs_more _ _ _ _).length]; simp) (fun v => ?_)
  rw [dfs_reach (a := -1) hg [] (List.replicate g.length false) (fun v => ⟨fun h => absurd h replicate_get, fun h => by omega⟩) (by simp) (by decide)]
  exact ⟨fun h => h.elim (fun h => by omega) id, .inr⟩
theorem visit_but {g : List (List Int)} (hg : Fits g) {a : Nat} (ha : a ≠ 0) (hl : a < g.length) : (dfs g g.length 0 ((List.replicate g.length false).set a true, [])).1.set a false = reachRow g a := by
  refine eq_reachRow (by rw [List.length_set, (dfs_more _ _ _ _).length]; simp) (fun v => ?_)
  have hr := dfs_reach (a := (a : Int)) hg [] ((List.replicate g.length false).set a true) (fun v => by
    rw [List.getElem?_set]
    split
    · rename_i e; subst e; simp [hl]
    · rename_i e
      exact ⟨fun h => absurd h replicate_get, fun h => by omega⟩) (by simp) (by omega) v
  rw [List.getElem?_set]
  split
  · rename_i e
    subst e
    have : ¬ Reach g (a : Int) a := fun h => h.ne rfl
    split <;> simp [this]
  · rename_i e
    rw [hr]
    exact ⟨fun h => h.elim (fun h => by omega) id, .inr⟩
theorem visit_zero {g : List (List Int)} : ((List.replicate g.length false).set 0 true).set 0 false = reachRow g 0 := by
  refine eq_reachRow (by simp) (fun v => ?_)
  rw [List.set_set, List.getElem?_set]
  have : ¬ Reach g 0 v := reach_zero
  split
  · split <;> simp [this]
  · simp only [this, iff_false]; exact replicate_get

end Go.Proofs.Ytonlidgmfmgcmaa

/-
  The reference's table of what dominates what.
-/
namespace Go.Proofs.Ytonlidgmfmgcmaa
open Go.RowKit

/-- The state of the reference's loop over the blocks. -/
structure DS (g : List (List Int)) (C : Array Value) (sb : Nat) (w : World) (k : Nat) (oa : Option Addr) (oc : Nat) (wr : World) : Prop where
  cblk : wr.heap[w.heap.size]? = some (.cells C 30 (0, 0))
  below : Below w.heap.size w wr
  lt : w.heap.size < wr.heap.size
  all : wr.ownsRow w.heap.size 4 1 (.slice (some ⟨sb, 0, none⟩) g.length g.length) g.length ((reachRow g (-1)).map Value.bool)
  out : BMatOwn wr w.heap.size oa k oc ((domMat g).take k)
theorem DS.later {g : List (List Int)} {C : Array Value} {sb : Nat} {w : World} {k : Nat} {oa : Option Addr} {oc : Nat} {wr w' : World} (h : DS g C sb w k oa oc wr) (hb : Below wr.heap.size wr w') : DS g C sb w k oa oc w' :=
  ⟨(hb.block _ h.lt).trans h.cblk, h.below.trans (hb.mono h.below.size), Nat.lt_of_lt_of_le h.lt hb.size, ownsRow_below h.all hb, h.out.below hb⟩

theorem own_type {w : World} {base size n : Nat} {e : TypeId} {v : Value} {xs : List Value} (h : w.ownsRow base e size v n xs) {k : Nat} (hk : v.ownBlock = some k) : ∃ cur, w.heap[k]? = some (.cells cur e (0, 0)) := by
  rcases h.2 with ⟨rfl, _⟩ | ⟨g, cap, cur, rfl, _, hg, _⟩
  · simp [Value.ownBlock] at hk
  · simp only [Value.ownBlock, Option.some.injEq] at hk
    subst hk
    exact ⟨cur, hg⟩
/-- The table has grown by a row. -/
theorem DS.snoc {g : List (List Int)} {C : Array Value} {sb : Nat} {w : World} {k : Nat} {oa : Option Addr} {oc : Nat} {wr w' : World} {a' ra : Option Addr} {c' rc n' : Nat} {bs : List Bool} (h : DS g C sb w k oa oc wr) (hb : (domMat g)[k]? = some bs)
    (vals : List Value) (hv : wr.ownsRow w.heap.size 60 1 (.slice oa k oc) k vals) (h2 : ∀ (i : Nat) v bs, vals[i]? = some v → ((domMat g).take k)[i]? = some bs → ∃ ra rc, v = .slice ra bs.length rc ∧ wr.ownsRow w.heap.size 4 1 v bs.length (bs.map Value.bool))
    (hr : wr.ownsRow w.heap.size 4 1 (.slice ra bs.length rc) bs.length (bs.map Value.bool)) (hg : wr.grownBy w' (Value.slice oa k oc).ownBlock)
    (hn : w'.ownsRow w.heap.size 60 1 (.slice a' n' c') n' (vals ++ [.slice ra bs.length rc])) (hn' : n' = k + 1) : DS g C sb w (k + 1) a' c' w' := by
  refine ⟨?_, ?_, Nat.lt_of_lt_of_le h.lt hg.size, ?_, ?_⟩
  · rw [hg.block _ h.lt (fun e => ?_)]
    · exact h.cblk
    · obtain ⟨cur, hc⟩ := own_type hv e.symm
      rw [h.cblk] at hc
      simp at hc
  · exact h.below.trans ((Below.refl _ _).grown hg h.below.size (fun j hj => (hv.lt j hj).1))
  · exact own_turned (S := fun j => (Value.slice oa k oc).ownBlock = some j) h.all (turned_of_grown hg (fun j hj => hj)) (fun j hj => own_apart h.all hv (by decide) hj)
  · rw [take_succ_of hb]
    subst hn'
    exact h.out.snoc hr vals hv h2 hg hn rfl

section
variable {w : World} {ops : Array Oper} {rest : List Oper} {o : Oper} {a : Act} {Q : Exit → Act → World → Prop}
/-- append onto rows of truth values of the call's own, in a plain region. -/
theorem app_bools (hgd : o.guard = none) (s x : Operand) (ho : o.op = .call { callee := .builtin .append, args := #[s, x], argTypes := #[41, 41] })
    (base : Nat) (v : Value) (n : Nat) (xs : List Value) (hs : a.eval s = v) (hown : w.ownsRow base 60 1 v n xs)
    (ao : Option Addr) (c : Nat) (y : Value) (hx : a.eval x = .slice ao 1 c) (hrow : RowAt w ao [y]) (hnil : ao = none → c = 0) (h1 : y.oneCell' = true)
    (hb : n + 1 ≤ 1099511627776) (hbase : base ≤ w.heap.size)
    (h : ∀ a' c' w', w'.ownsRow base 60 1 (.slice a' (n + 1) c') (n + 1) (xs ++ [y]) → w.grownBy w' v.ownBlock → wpList Try.prog ops Q rest (a.put o.dst (.slice a' (n + 1) c')) w') : wpList Try.prog ops Q (o :: rest) a w := by
  obtain ⟨i0, hi, hz0, hz1, hz2⟩ := info_parts info_bools
  exact wpList_append_any hgd s x 41 ho base 60 i0 (.slice none 0 0) 1 24 und_bmat hi hz0 hz1 hz2 rfl (by decide) v n xs hs hown ao 1 c _ hx rfl hrow hnil (by simp [h1]) (by unfold maxLen; omega) (by omega) hbase (fun a' c' w' g1 g2 _ => h a' c' w' g1 g2)
end

theorem made_bools (n : Nat) : (madeCells (Value.bool false).cells (n * 1)).toList = (List.replicate n false).map Value.bool := by
  rw [Nat.mul_one, show (Value.bool false).cells = #[Value.bool false] from rfl, toList_madeCells_one, List.map_replicate]

theorem two_blocks (w : World) (P Q : Obj) : ((w.alloc P).alloc Q).heap[w.heap.size]? = some P ∧ ((w.alloc P).alloc Q).heap[w.heap.size + 1]? = some Q ∧ ((w.alloc P).alloc Q).heap.size = w.heap.size + 2 ∧ Below w.heap.size w ((w.alloc P).alloc Q) :=
  ⟨heap_alloc2_old w P Q, heap_alloc2_new w P Q, by simp, ((Below.refl _ _).alloc (Nat.le_refl _) _).alloc (by simp) _⟩
theorem bmat_empty {w : World} {base b : Nat} (h : w.heap[b]? = some (.cells #[] 60 (0, 0))) (hb : base ≤ b) : BMatOwn w base (some ⟨b, 0, none⟩) 0 0 [] :=
  ⟨rfl, [], ⟨by simp, .inr ⟨b, 0, #[], rfl, hb, h, Nat.le_refl _, Nat.zero_le _, rfl, rfl⟩⟩, fun i v bs hv => by simp at hv⟩

theorem two_stores {g : List (List Int)} {k : Nat} {wr w3 : World} {base : Nat} (hz : k = 0) (hb3 : Below wr.heap.size wr w3) (hown3 : w3.ownsRow base 4 1 (.slice (some ⟨wr.heap.size, 0, none⟩) g.length g.length) g.length ((List.replicate g.length false).map Value.bool)) :
    ∀ w4, (w3.setCell ⟨wr.heap.size, k, none⟩ (.bool true)).setCell ⟨wr.heap.size, k, none⟩ (.bool false) = w4 → Below wr.heap.size wr w4 ∧ w4.ownsRow base 4 1 (.slice (some ⟨wr.heap.size, 0, none⟩) g.length g.length) g.length ((reachRow g k).map Value.bool) := by
  rintro w4 rfl
  have h1 := ((hown3.stored k (.bool true)).1.stored k (.bool false)).1
  subst hz
  refine ⟨(hb3.setCell (Nat.le_refl _) _).setCell (Nat.le_refl _) _, ?_⟩
  rw [show (((0 : Nat) : Int)) = 0 from rfl, ← visit_zero, List.map_set, List.map_set]
  exact h1

set_option maxRecDepth 100000 in
set_option maxHeartbeats 4000000 in
theorem l11Doms_any (g : List (List Int)) (hf : Fits g) (p r : Int) (ba : Option Addr) (bc : Nat) (w : World) (hg : Gr w ba g) :
    Calls Try.prog 17 #[.agg #[.int .i64 p, .int .i64 r, .slice ba g.length bc]] w fun e w' =>
      ∃ a c, e = .returned (.slice a g.length c) ∧ BMatOwn w' w.heap.size a g.length c (domMat g) ∧ Below w.heap.size w w' := by
  obtain ⟨i0, hi, hz0, hz1, hz2⟩ := info_parts info_bool
  have hlen := hg.len
  have hpos := hf.pos
  have HI := Lib.hid (And.intro hi (And.intro hz0 (And.intro hz1 hz2)))
  clear hi hz0 hz1 hz2
  go_enter Try.func17, Try.ntmps17
  go_wp2_with (at_make; refine wpList_make_full _ rfl _ _ 60 rfl w.heap.size 4 i0 (.bool false) 1 und_bools HI.out.1 HI.out.2.1 HI.out.2.2.1 _ _ _ _ g.length rfl rfl rfl rfl (by rw [HI.out.2.2.2]; omega) (by unfold maxLen; omega) (by simp; omega) ?_; intro w1 hown hg1; (have HH := two_blocks w (.cells #[.int .i64 p, .int .i64 r, .slice ba g.length bc] 30) (.cells #[] 60)); (generalize (w.alloc (.cells #[.int .i64 p, .int .i64 r, .slice ba g.length bc] 30)).alloc (.cells #[] 60) = WA at HH hown hg1 ⊢); obtain ⟨hA0, hA1, hA2, hA3⟩ := HH; rw [hA2] at hown ⊢; rw [made_bools] at hown; (have hb1 : Below (w.heap.size + 2) WA w1 := (Below.refl _ _).grown hg1 (by omega) (by simp)); (have hB0 := (hb1.block _ (by omega)).trans hA0); (have hB1 := (hb1.block _ (by omega)).trans hA1); (have hk0 : w1.cell? ⟨w.heap.size, 0, none⟩ = some (.int .i64 p) := cell_of_row _ _ 0 _ _ _ hB0); (have hk1 : w1.cell? ⟨w.heap.size, 1, none⟩ = some (.int .i64 r) := cell_of_row _ _ 1 _ _ _ hB0); (have hk2 : w1.cell? ⟨w.heap.size, 2, none⟩ = some (.slice ba g.length bc) := cell_of_row _ _ 2 _ _ _ hB0))
  have hw1 : w.heap.size + 3 ≤ w1.heap.size := by have := (hown.lt (w.heap.size + 2) rfl).2; omega
  have hbw : Below w.heap.size w w1 := hA3.trans (hb1.mono (by omega))
  go_wp2_with fail
  refine (l10Visit_any g hf p r ba bc w hg (w.heap.size + 2) g.length 0 (List.replicate g.length false, []) (some ⟨w1.heap.size, 0, none⟩) 0 _ (hbw.alloc (by omega) _) (hown.alloc _) (own_empty _ _ _ _ (by omega)) (by have := unseen_le (List.replicate g.length false); simp at this ⊢; omega) hpos (by unfold seenAt; simp [hpos]) (by have := unseen_le (List.replicate g.length false); simpa using this)).mono ?_
  rintro e w2 ⟨oa', oc', rfl, hv⟩
  have hvs := hv.seen
  simp only [Int.cast_ofNat_Int] at hvs
  rw [visit_all hf] at hvs
  have hnb : ∀ k, k < w.heap.size + 2 → w2.heap[k]? = w1.heap[k]? := fun k hk => by
    have h1 := hv.turned.block k (by simp; omega) (fun h => by
      rcases h with h | h
      · omega
      · simp only [Value.ownBlock, Option.some.injEq] at h; omega)
    rw [h1]
    exact heap_alloc_old w1 _ (by omega)
  have hDS : DS g #[.int .i64 p, .int .i64 r, .slice ba g.length bc] (w.heap.size + 2) w 0 (some ⟨w.heap.size + 1, 0, none⟩) 0 w2 := by
    refine ⟨(hnb _ (by omega)).trans hB0, ?_, ?_, hvs, ?_⟩
    · refine (hbw.alloc (by omega) _).trans (hv.turned.below (by simp; omega) (fun k hk => ?_))
      rcases hk with h | h
      · omega
      · simp only [Value.ownBlock, Option.some.injEq] at h; omega
    · have := hv.turned.size; simp at this; omega
    · exact bmat_empty ((hnb _ (by omega)).trans hB1) (by omega)
  have HDS := Lib.hid hDS
  clear hDS hnb hvs hv hbw hw1 hk0 hk1 hk2 hB0 hB1 hb1 hA0 hA1 hA2 hA3 hown hg1
  go_wp2
  go_loopw [4, 6] (fun o i wr => ∃ k : Nat, k ≤ g.length ∧ i = .int .i64 k ∧ ∃ oa oc, o = .slice oa k oc ∧ Hid (DS g #[.int .i64 p, .int .i64 r, .slice ba g.length bc] (w.heap.size + 2) w k oa oc wr)) (fun _ i _ => g.length - (intOf i).toNat)
  case atStart => exact ⟨0, Nat.zero_le _, rfl, _, _, rfl, HDS⟩
  case round =>
    obtain ⟨k, hk, rfl, oa, oc, rfl, HK⟩ := hrel
    clear HDS
    by_cases hlt : k < g.length
    · have hki : (k : Int) < (g.length : Int) := by omega
      have hwlt := HK.out.lt
      have hwne : w.heap.size ≠ wr.heap.size := by omega
      by_cases hz : k = 0
      case' pos =>
        have hne : ((k : Int) != 0) = false := by subst hz; rfl
        have HZ := Lib.hid hz
        clear hz
        go_wp2_with (at_make; first | (refine wpList_make_full _ rfl _ _ 60 rfl wr.heap.size 4 i0 (.bool false) 1 und_bools HI.out.1 HI.out.2.1 HI.out.2.2.1 _ _ _ _ g.length rfl rfl rfl rfl (by rw [HI.out.2.2.2]; omega) (by unfold maxLen; omega) (Nat.le_refl _) ?_; intro w3 hown3 hg3; rw [made_bools] at hown3; (have hb3 : Below wr.heap.size wr w3 := (Below.refl _ _).grown hg3 (Nat.le_refl _) (by simp)); (have hcs : w3.cell? ⟨wr.heap.size, k, none⟩ = some (.bool false) := by rw [hown3.cellAt k (by omega), List.getElem?_map, List.getElem?_replicate, if_pos hlt]; rfl); (have hfs := hown3.frozenAt k); (have hB3 := (hb3.block _ HK.out.lt).trans HK.out.cblk); (have hk0 : w3.cell? ⟨w.heap.size, 0, none⟩ = some (.int .i64 p) := cell_of_row _ _ 0 _ _ _ hB3); (have hk1 : w3.cell? ⟨w.heap.size, 1, none⟩ = some (.int .i64 r) := cell_of_row _ _ 1 _ _ _ hB3); (have hk2 : w3.cell? ⟨w.heap.size, 2, none⟩ = some (.slice ba g.length bc) := cell_of_row _ _ 2 _ _ _ hB3); clear hB3) | ((have HW4 : Hid (∀ w4, (w3.setCell ⟨wr.heap.size, k, none⟩ (.bool true)).setCell ⟨wr.heap.size, k, none⟩ (.bool false) = w4 → Below wr.heap.size wr w4 ∧ w4.ownsRow wr.heap.size 4 1 (.slice (some ⟨wr.heap.size, 0, none⟩) g.length g.length) g.length ((reachRow g k).map Value.bool)) := Lib.hid (two_stores HZ.out hb3 hown3)); (generalize hw4 : World.setCell _ _ _ = w4); (obtain ⟨hb4, hs4⟩ := HW4.out w4 hw4); clear hw4 HW4; refine wpList_make_full _ rfl _ _ 60 rfl w.heap.size 4 i0 (.bool false) 1 und_bools HI.out.1 HI.out.2.1 HI.out.2.2.1 _ _ _ _ g.length rfl rfl rfl rfl (by rw [HI.out.2.2.2]; omega) (by unfold maxLen; omega) (by have := hb4.size; omega) ?_; intro w6 hown6 hg6; rw [made_bools] at hown6; (have hb6 : Below w4.heap.size w4 w6 := (Below.refl _ _).grown hg6 (Nat.le_refl _) (by simp))))
      case' neg =>
        have hne : ((k : Int) != 0) = true := by simp [hz]
        have HZ := Lib.hid hz
        clear hz
        go_wp2_with (at_make; refine wpList_make_full _ rfl _ _ 60 rfl wr.heap.size 4 i0 (.bool false) 1 und_bools HI.out.1 HI.out.2.1 HI.out.2.2.1 _ _ _ _ g.length rfl rfl rfl rfl (by rw [HI.out.2.2.2]; omega) (by unfold maxLen; omega) (Nat.le_refl _) ?_; intro w3 hown3 hg3; rw [made_bools] at hown3; (have hb3 : Below wr.heap.size wr w3 := (Below.refl _ _).grown hg3 (Nat.le_refl _) (by simp)); (have hcs : w3.cell? ⟨wr.heap.size, k, none⟩ = some (.bool false) := by rw [hown3.cellAt k (by omega), List.getElem?_map, List.getElem?_replicate, if_pos hlt]; rfl); (have hfs := hown3.frozenAt k); (have hB3 := (hb3.block _ HK.out.lt).trans HK.out.cblk); (have hk0 : w3.cell? ⟨w.heap.size, 0, none⟩ = some (.int .i64 p) := cell_of_row _ _ 0 _ _ _ hB3); (have hk1 : w3.cell? ⟨w.heap.size, 1, none⟩ = some (.int .i64 r) := cell_of_row _ _ 1 _ _ _ hB3); (have hk2 : w3.cell? ⟨w.heap.size, 2, none⟩ = some (.slice ba g.length bc) := cell_of_row _ _ 2 _ _ _ hB3); clear hB3)
        have hbsz3 := hb3.size
        have he1 : ((w3.setCell ⟨wr.heap.size, k, none⟩ (.bool true)).alloc (.cells #[] 3)).ownsRow wr.heap.size 3 1 (.slice (some ⟨w3.heap.size, 0, none⟩) 0 0) 0 [] := by
          have := own_empty (w3.setCell ⟨wr.heap.size, k, none⟩ (.bool true)) wr.heap.size 3 1 (by rw [World.size_setCell]; exact hbsz3)
          rwa [World.size_setCell] at this
        have he2 : Below wr.heap.size wr ((w3.setCell ⟨wr.heap.size, k, none⟩ (.bool true)).alloc (.cells #[] 3)) := (hb3.setCell (Nat.le_refl _) _).alloc (by rw [World.size_setCell]; exact hbsz3) _
        have he3 : ((w3.setCell ⟨wr.heap.size, k, none⟩ (.bool true)).alloc (.cells #[] 3)).ownsRow wr.heap.size 4 1 (.slice (some ⟨wr.heap.size, 0, none⟩) g.length g.length) g.length (((List.replicate g.length false).set k true).map Value.bool) := by rw [List.map_set]; exact (hown3.stored k (.bool true)).1.alloc _
        have hun : unseen ((List.replicate g.length false).set k true) ≤ g.length := by have := unseen_le ((List.replicate g.length false).set k true); simpa using this
        have hsa : seenAt ((List.replicate g.length false).set k true) ((0 : Nat) : Int) = false := by
          have hz := HZ.out
          unfold seenAt
          rw [List.getD_eq_getElem?_getD, Int.toNat_natCast, List.getElem?_set, if_neg hz, List.getElem?_replicate, if_pos hpos]; rfl
        refine (l10Visit_any g hf p r ba bc wr (hg.later HK.out.below) wr.heap.size g.length 0 ((List.replicate g.length false).set k true, []) (some ⟨w3.heap.size, 0, none⟩) 0 _ he2 he3 he1 (by simp only [List.length_nil, Nat.zero_add]; omega) hpos hsa hun).mono ?_
        rintro e w5 ⟨oa5, oc5, rfl, hv5⟩
        have hcs5 : w5.cell? ⟨wr.heap.size, k, none⟩ = some (.bool true) := by
          rw [hv5.seen.cellAt k (by omega), List.getElem?_map, (dfs_more _ _ _ _).more k (by rw [List.getElem?_set]; simp [hlt])]; rfl
        have hfs5 := hv5.seen.frozenAt k
        have HW4 : Hid (∀ w4, w5.setCell ⟨wr.heap.size, k, none⟩ (.bool false) = w4 → Below wr.heap.size wr w4 ∧ w4.ownsRow wr.heap.size 4 1 (.slice (some ⟨wr.heap.size, 0, none⟩) g.length g.length) g.length ((reachRow g k).map Value.bool)) := by
          refine Lib.hid ?_
          rintro w4 rfl
          have h1 := (hv5.seen.stored k (.bool false)).1
          refine ⟨?_, ?_⟩
          · refine Below.setCell (p := ⟨wr.heap.size, k, none⟩) ?_ (Nat.le_refl _) _
            refine ((hb3.setCell (Nat.le_refl _) _).alloc (by have := hb3.size; simp; omega) _).trans (hv5.turned.below (by have := hb3.size; simp; omega) (fun j hj => ?_))
            rcases hj with h | h
            · omega
            · simp only [Value.ownBlock, Option.some.injEq] at h; have := hb3.size; omega
          · rw [← visit_but hf HZ.out hlt, List.map_set]
            exact h1
        go_wp2_with (at_make; (generalize hw4 : World.setCell _ _ _ = w4); (obtain ⟨hb4, hs4⟩ := HW4.out w4 hw4); clear hw4 HW4; refine wpList_make_full _ rfl _ _ 60 rfl w.heap.size 4 i0 (.bool false) 1 und_bools HI.out.1 HI.out.2.1 HI.out.2.2.1 _ _ _ _ g.length rfl rfl rfl rfl (by rw [HI.out.2.2.2]; omega) (by unfold maxLen; omega) (by have := hb4.size; omega) ?_; intro w6 hown6 hg6; rw [made_bools] at hown6; (have hb6 : Below w4.heap.size w4 w6 := (Below.refl _ _).grown hg6 (Nat.le_refl _) (by simp)))
      all_goals
        have hb46 : Below wr.heap.size wr w6 := hb4.trans (hb6.mono hb4.size)
        have HD6 := Lib.hid (And.intro (HK.out.later hb46) (And.intro (ownsRow_below hs4 hb6) (And.intro (hs4.lt wr.heap.size rfl).2 (HK.out.all.lt (w.heap.size + 2) rfl).2)))
        have HR0 := Lib.hid hown6
        have hw46 := hb4.size
        have HB46 := Lib.hid (And.intro hb46 hw46)
        clear hb46 hb6 hb4 hs4 hown6 hg6 hb3 hown3 hg3 hcs hfs hk0 hk1 hk2
        go_wp2
        go_loopw [9] (fun j wq => ∃ m : Nat, m ≤ g.length ∧ j = .int .i64 m ∧ Hid (Turned (fun x => x = w4.heap.size) w6 wq ∧ wq.ownsRow w.heap.size 4 1 (.slice (some ⟨w4.heap.size, 0, none⟩) g.length g.length) g.length (((domRow g k).take m).map Value.bool ++ List.replicate (g.length - m) (Value.bool false)))) (fun j _ => g.length - (intOf j).toNat)
        case atStart => exact ⟨0, Nat.zero_le _, rfl, Lib.hid ⟨Turned.refl _ _, by have := HR0.out; rw [List.map_replicate] at this; simpa using this⟩⟩
        case round =>
          obtain ⟨m, hm, rfl, HM⟩ := hrel
          have hsl := HD6.out.2.2
          by_cases hlt2 : m < g.length
          · have hal := own_turned HD6.out.1.all HM.out.1 (fun j hj hx => by simp only [Value.ownBlock, Option.some.injEq] at hj; omega)
            have hse := own_turned HD6.out.2.1 HM.out.1 (fun j hj hx => by simp only [Value.ownBlock, Option.some.injEq] at hj; omega)
            have hc1 := hal.cellAt k (by omega)
            have hc2 := hal.cellAt m (by omega)
            have hc3 := hse.cellAt m (by omega)
            have hc4 := HM.out.2.cellAt m (by omega)
            have hc5 := HM.out.2.frozenAt m
            have hdl := domRow_length g k
            rw [List.getElem?_map, reachRow_get (by omega), Option.map_some] at hc1 hc2 hc3
            rw [List.getElem?_append_right (by simp; omega)] at hc4
            simp only [List.length_map, List.length_take, hdl, Nat.min_eq_left hm, Nat.sub_self] at hc4
            rw [List.getElem?_replicate, if_pos (by omega)] at hc4
            have HX := Lib.hid (domRow_get (g := g) (a := k) hlt2)
            unfold domB at HX
            have hst := fun v => HM.out.2.stored m (.bool v)
            have HT := Lib.hid hst
            clear hst hal hse
            generalize reachB g (-1) k = va at hc1 HX
            generalize reachB g (-1) m = vb at hc2 HX
            generalize reachB g k m = vs at hc3 HX
            have HM1 := Lib.hid HM.out.1
            have HS := Lib.hid (fun v (hv : (domRow g k)[m]? = some v) => (set_next_bool hv hdl) ▸ (HT.out v).1)
            clear HM hdl hsl
            cases va <;> cases vb <;> cases vs <;> (
              go_wp2
              go_roundw
              case rel => exact ⟨m + 1, by omega, by go_num, Lib.hid ⟨HM1.out.trans (turned_of_grown (HT.out _).2 (fun j hj => by cases hj; rfl)), HS.out _ HX.out⟩⟩
              case measure => simp [intOf]; omega)
          · obtain rfl : m = g.length := by omega
            have hdl := domRow_length g k
            have hrw := HM.out.2
            rw [Nat.sub_self, List.replicate_zero, List.append_nil, List.take_of_length_le (by omega)] at hrw
            have hDq : DS g #[.int .i64 p, .int .i64 r, .slice ba g.length bc] (w.heap.size + 2) w k oa oc wr := HK.out.later (HB46.out.1.trans (HM.out.1.below HB46.out.1.size (fun j hj => by have := HB46.out.2; omega)))
            obtain ⟨_, vals, hvals, hv2⟩ := hDq.out
            have hrl : (domRow g k).length = g.length := hdl
            go_wp2_with (at_builtin; refine app_bools rfl (.tmp 69) (.tmp 71) rfl w.heap.size _ k vals rfl (hvals.alloc _) _ _ _ rfl (rowAt_one _ _ _) (by rintro ⟨⟩) rfl (by omega) (by have := hDq.below.size; simp; omega) ?_; intro a7 c7 w7 hown7 hg7)
            go_roundw
            case rel =>
              refine ⟨k + 1, by omega, by go_num, a7, c7, rfl, Lib.hid ?_⟩
              have hba : Below wr.heap.size wr (wr.alloc (.cells #[.slice (some ⟨w4.heap.size, 0, none⟩) g.length g.length] 60)) := (Below.refl _ _).alloc (Nat.le_refl _) _
              refine (hDq.later hba).snoc (domMat_get hlt) vals (hvals.alloc _) (fun i v bs h1 h3 => ?_) (ra := some ⟨w4.heap.size, 0, none⟩) (rc := g.length) ?_ hg7 ?_ rfl
              · obtain ⟨ra, rc, rfl, h4⟩ := hv2 i v bs h1 h3
                exact ⟨ra, rc, rfl, h4.alloc _⟩
              · rw [hdl]; exact hrw.alloc _
              · rw [hdl]; exact hown7
            case measure => simp [intOf]; omega
    · obtain rfl : k = g.length := by omega
      go_wp2
      go_ret
      have hd := HK.out
      refine ⟨oa, oc, rfl, ?_, hd.below⟩
      have := hd.out
      rwa [List.take_of_length_le (by simp [domMat])] at this

end Go.Proofs.Ytonlidgmfmgcmaa
