
/-
  A code read as a graph; the reference's test whether it is one.
-/
import Derived.Test.YtonlidgmfmgcmaaGreatUnitEq
import Derived.Test.YtonlidgmfmgcmaaGreatGraph
import Derived.Test.YtonlidgmfmgcmaaGreatBase
import Derived.Test.YtonlidgmfmgcmaaGreatCore
import Derived.StillTailTactics

namespace Go.Proofs.YtonlidgmfmgcmaaGreat
open Go.RowKit

/-- The blocks behind a slice lead to one another as g says. -/
structure Gr (w : World) (ba : Option Addr) (g : List (List Int)) : Prop where
  small : g.length + (g.map List.length).sum ≤ 1048576
  rd : ∃ bs : List BlockD, SliceRd 5 BlockR w ba bs.length bs ∧ g = bs.map (·.nx)
theorem Gr.later {w w' : World} {ba : Option Addr} {g : List (List Int)} (h : Gr w ba g) (hb : Below w.heap.size w w') : Gr w' ba g := by
  obtain ⟨h1, bs, h2, h3⟩ := h
  exact ⟨h1, bs, h2.later blockR_lasts hb, h3⟩
theorem Gr.place2 {w : World} {ba : Option Addr} {g : List (List Int)} (h : Gr w ba g) {i : Nat} (hi : i < g.length) :
    ∃ b off l na nc, ba = some ⟨b, off, none⟩ ∧ g[i]? = some l ∧ w.cell? ⟨b, off + i * 5 + 4, none⟩ = some (.slice na l.length nc) ∧ IntsRd w na l.length l ∧ (na = none → nc = 0) := by
  obtain ⟨_, bs, h2, rfl⟩ := h
  obtain ⟨b, off, phis, ins, jump, jon, nx, pa, pc, ia, ic, na, nc, rfl, hx, c0, c1, c2, c3, c4, hr⟩ := block_place h2 (i := i) (by simpa using hi)
  obtain ⟨_, _, _, _, _, _, hcs, _, _, ⟨_, hnil⟩, hrd⟩ := hr
  simp only [List.cons.injEq, Value.slice.injEq, and_true, true_and] at hcs
  obtain ⟨_, _, rfl, rfl⟩ := hcs
  exact ⟨b, off, nx, _, _, rfl, by rw [List.getElem?_map, hx]; rfl, c4, hrd, hnil⟩
theorem Gr.place {w : World} {ba : Option Addr} {g : List (List Int)} (h : Gr w ba g) {i : Nat} (hi : i < g.length) :
    ∃ b off l na nc, ba = some ⟨b, off, none⟩ ∧ g[i]? = some l ∧ w.cell? ⟨b, off + i * 5 + 4, none⟩ = some (.slice na l.length nc) ∧ IntsRd w na l.length l := by
  obtain ⟨b, off, l, na, nc, h1, h2, h3, h4, _⟩ := h.place2 hi
  exact ⟨b, off, l, na, nc, h1, h2, h3, h4⟩
theorem Gr.len {w : World} {ba : Option Addr} {g : List (List Int)} (h : Gr w ba g) : g.length ≤ 1048576 := by have := h.small; omega
theorem Gr.row {w : World} {ba : Option Addr} {g : List (List Int)} (h : Gr w ba g) {i : Nat} {l : List Int} (hl : g[i]? = some l) : l.length ≤ 1048576 := by
  have h1 := h.small
  have h2 : l.length ∈ g.map List.length := List.mem_map_of_mem (List.mem_of_getElem? hl)
  have h3 := sumOf_mem (sz := List.length) (List.mem_of_getElem? hl)
  unfold sumOf at h3
  omega
def nxs (x : CodeD) : List (List Int) := x.blocks.map (·.nx)
theorem nxs_sum : ∀ bs : List BlockD, ((bs.map (·.nx)).map List.length).sum ≤ sumOf szBlockD bs
  | [] => Nat.le_refl _
  | b :: bs => by
    have := nxs_sum bs
    unfold sumOf at this ⊢
    simp only [List.map_cons, List.sum_cons, szBlockD] at this ⊢
    omega
theorem gr_of_code {w : World} {cs : List Value} {x : CodeD} (h : CodeR w cs x) (hs : szCodeD x ≤ 1048576) : ∃ ba bc, cs = [.int .i64 x.params, .int .i64 x.regs, .slice ba (nxs x).length bc] ∧ Gr w ba (nxs x) := by
  obtain ⟨ba, bc, rfl, _, hr⟩ := h
  have hl : (nxs x).length = x.blocks.length := by simp [nxs]
  refine ⟨ba, bc, by rw [hl], ⟨?_, x.blocks, hr, rfl⟩⟩
  have := nxs_sum x.blocks
  unfold szCodeD szS at hs
  rw [hl]
  unfold nxs
  omega

theorem l1In_any (x lo hi : Int) (w : World) : Calls Tryz.prog 34 #[.int .i64 x, .int .i64 lo, .int .i64 hi] w fun e w' => e = .returned (.bool (decide (lo ≤ x) && decide (x ≤ hi))) ∧ w = w' := by
  by_cases h1 : lo ≤ x
  · have d1 : decide (lo ≤ x) = true := decide_eq_true h1
    by_cases h2 : x ≤ hi
    · have d2 : decide (x ≤ hi) = true := decide_eq_true h2
      go_enter Tryz.func34, Tryz.ntmps34
      go_wp2
      go_ret
      exact ⟨by rw [d1, d2]; rfl, rfl⟩
    · have d2 : decide (x ≤ hi) = false := decide_eq_false h2
      go_enter Tryz.func34, Tryz.ntmps34
      go_wp2
      go_ret
      exact ⟨rfl, rfl⟩
  · have d1 : decide (lo ≤ x) = false := decide_eq_false h1
    go_enter Tryz.func34, Tryz.ntmps34
    go_wp2
    go_ret
    exact ⟨rfl, rfl⟩
theorem l1In_same (x lo hi : Int) (w : World) : Calls Tryz.prog 34 #[.int .i64 x, .int .i64 lo, .int .i64 hi] w fun e w' => e = .returned (.bool (decide (lo ≤ x) && decide (x ≤ hi))) ∧ w' = w :=
  (l1In_any x lo hi w).mono fun _ _ ⟨he, hw⟩ => ⟨he, hw.symm⟩

end Go.Proofs.YtonlidgmfmgcmaaGreat

/-
  The reference's visit in depth computes 'dfs'.
-/
namespace Go.Proofs.YtonlidgmfmgcmaaGreat
open Go.RowKit

theorem own_apart {w : World} {base base' size size' n n' : Nat} {e e' : TypeId} {v v' : Value} {xs xs' : List Value} (h : w.ownsRow base e size v n xs) (h' : w.ownsRow base' e' size' v' n' xs') (hne : e ≠ e') {k : Nat} (hk : v.ownBlock = some k) : v'.ownBlock ≠ some k := by
  intro hk'
  rcases h.2 with ⟨rfl, _⟩ | ⟨g, cap, cur, rfl, _, hg, _⟩
  · simp [Value.ownBlock] at hk
  · rcases h'.2 with ⟨rfl, _⟩ | ⟨g', cap', cur', rfl, _, hg', _⟩
    · simp [Value.ownBlock] at hk'
    · simp only [Value.ownBlock, Option.some.injEq] at hk hk'
      subst hk; subst hk'
      rw [hg] at hg'
      simp at hg'
      exact hne hg'.2

theorem dfs_count (g : List (List Int)) : ∀ (f : Nat) (n : Int) (st : St), (dfs g f n st).2.length + unseen (dfs g f n st).1 = st.2.length + unseen st.1
  | 0, _, _ => rfl
  | f + 1, n, st => by
    unfold dfs
    split
    · rfl
    · rename_i hs
      have hs : seenAt st.1 n = false := by simpa using hs
      have hun := unseen_set (seenAt_false hs)
      have key : ∀ (l : List Int) (st1 : St), (l.foldl (fun st m => dfs g f m st) st1).2.length + unseen (l.foldl (fun st m => dfs g f m st) st1).1 = st1.2.length + unseen st1.1 := by
        intro l
        induction l with
        | nil => intro st1; rfl
        | cons x l ih => intro st1; rw [List.foldl_cons, ih, dfs_count g f x st1]
      have := key (g.getD n.toNat []) (st.1.set n.toNat true, st.2)
      simp only [List.length_append, List.length_cons, List.length_nil] at this ⊢
      omega
/-- Behind the first k of the Next of b. -/
def dfsTo (g : List (List Int)) (f : Nat) (b : Nat) (l : List Int) (st : St) (k : Nat) : St := (l.take k).foldl (fun st m => dfs g f m st) (st.1.set b true, st.2)
theorem dfsTo_succ {g : List (List Int)} {f b : Nat} {l : List Int} {st : St} {k : Nat} {x : Int} (h : l[k]? = some x) : dfsTo g f b l st (k + 1) = dfs g f x (dfsTo g f b l st k) := by
  rw [dfsTo, take_succ_of h, List.foldl_append]; rfl
theorem dfsTo_more (g : List (List Int)) (f b : Nat) (l : List Int) (st : St) (k : Nat) : More (st.1.set b true) (dfsTo g f b l st k).1 := foldl_more (F := fun st m => dfs g f m st) (fun st m => dfs_more g f m st) (l.take k) (st.1.set b true, st.2)
theorem dfsTo_count (g : List (List Int)) (f b : Nat) (l : List Int) (st : St) (k : Nat) : (dfsTo g f b l st k).2.length + unseen (dfsTo g f b l st k).1 = st.2.length + unseen (st.1.set b true) := by
  unfold dfsTo
  generalize l.take k = l'
  have key : ∀ (l : List Int) (st1 : St), (l.foldl (fun st m => dfs g f m st) st1).2.length + unseen (l.foldl (fun st m => dfs g f m st) st1).1 = st1.2.length + unseen st1.1 := by
    intro l
    induction l with
    | nil => intro st1; rfl
    | cons x l ih => intro st1; rw [List.foldl_cons, ih, dfs_count g f x st1]
  exact key l' _
theorem dfs_all {g : List (List Int)} {f b : Nat} {l : List Int} {st : St} (hl : g[b]? = some l) (hs : seenAt st.1 (b : Int) = false) : dfs g (f + 1) (b : Int) st = ((dfsTo g f b l st l.length).1, (dfsTo g f b l st l.length).2 ++ [(b : Int)]) := by
  rw [dfs, if_neg (by simp [hs]), dfsTo, List.take_length]
  simp [hl]

theorem dfs_seen {g : List (List Int)} {n : Int} {st : St} (h : seenAt st.1 n = true) : ∀ f, dfs g f n st = st
  | 0 => rfl
  | f + 1 => by rw [dfs, if_pos h]

/-- What the call has left: the row of seen blocks and the list, both its own; no other old block has changed. -/
structure Visited (base : Nat) (n sb : Nat) (ov : Value) (w : World) (st : St) (oa : Option Addr) (oc : Nat) (w' : World) : Prop where
  seen : w'.ownsRow base 4 1 (.slice (some ⟨sb, 0, none⟩) n n) n (st.1.map Value.bool)
  list : w'.ownsRow base 3 1 (.slice oa st.2.length oc) st.2.length (st.2.map (Value.int .i64))
  turned : Turned (fun k => k = sb ∨ ov.ownBlock = some k) w w'
  fresh : ∀ k, (Value.slice oa st.2.length oc).ownBlock = some k → ov.ownBlock = some k ∨ w.heap.size ≤ k

theorem Visited.step {base n sb : Nat} {ov : Value} {w w1 w2 : World} {st st' : St} {oa oa' : Option Addr} {oc oc' : Nat} (h : Visited base n sb ov w st oa oc w1) (k : Visited base n sb (.slice oa st.2.length oc) w1 st' oa' oc' w2) : Visited base n sb ov w st' oa' oc' w2 where
  seen := k.seen
  list := k.list
  turned := ⟨k.turned.os.trans h.turned.os, k.turned.tape.trans h.turned.tape, k.turned.output.trans h.turned.output, Nat.le_trans h.turned.size k.turned.size, fun j hj hn => (k.turned.block j (Nat.lt_of_lt_of_le hj h.turned.size) (fun e => by
    rcases e with e | e
    · exact hn (.inl e)
    · rcases h.fresh j e with e | e
      · exact hn (.inr e)
      · omega)).trans (h.turned.block j hj hn)⟩
  fresh := fun j hj => by
    rcases k.fresh j hj with e | e
    · exact h.fresh j e
    · exact .inr (Nat.le_trans h.turned.size e)
theorem Visited.from {base n sb : Nat} {ov : Value} {w w1 w2 : World} {st : St} {oa : Option Addr} {oc : Nat} (ht : Turned (fun k => k = sb) w w1) (k : Visited base n sb ov w1 st oa oc w2) : Visited base n sb ov w st oa oc w2 :=
  ⟨k.seen, k.list, (ht.mono (fun _ h => .inl h)).trans k.turned, fun j hj => (k.fresh j hj).imp_right (fun e => Nat.le_trans ht.size e)⟩
theorem Visited.drew {base n sb : Nat} {ov : Value} {w w1 : World} {st : St} {oa : Option Addr} {oc : Nat} (h : Visited base n sb ov w st oa oc w1) : Visited base n sb ov w st oa oc w1.drew :=
  ⟨h.seen, h.list, ⟨h.turned.os, h.turned.tape, h.turned.output, h.turned.size, h.turned.block⟩, h.fresh⟩

end Go.Proofs.YtonlidgmfmgcmaaGreat

/-
  Rows of truth values, and slices of such rows: how they read, how they are owned and filled.
-/
namespace Go.Proofs.YtonlidgmfmgcmaaGreat
open Go.RowKit

theorem info_bool : (Tryz.prog.info? 4).map (fun i => (i.zero, i.size, i.bytes)) = some (some (.bool false), 1, 1) := by kernel_rfl
theorem und_bools : Tryz.prog.underlying 41 = some (.slice 4) := by kernel_rfl
theorem info_bools : (Tryz.prog.info? 41).map (fun i => (i.zero, i.size, i.bytes)) = some (some (.slice none 0 0), 1, 24) := by kernel_rfl
/-- A slice value's elements read as a list of truth values. -/
structure BoolsRd (w : World) (a : Option Addr) (len : Nat) (bs : List Bool) : Prop where
  length : bs.length = len
  row : RowAt w a (bs.map Value.bool)
theorem BoolsRd.later {w w' : World} {a : Option Addr} {len : Nat} {bs : List Bool} (h : BoolsRd w a len bs) (hb : Below w.heap.size w w') : BoolsRd w' a len bs := ⟨h.length, h.row.later hb⟩
theorem BoolsRd.place {w : World} {a : Option Addr} {len : Nat} {bs : List Bool} (h : BoolsRd w a len bs) {i : Nat} (hi : i < len) :
    ∃ b off x, a = some ⟨b, off, none⟩ ∧ bs[i]? = some x ∧ w.cell? ⟨b, off + i, none⟩ = some (.bool x) := by
  have hl := h.length
  rcases h.row with h0 | ⟨b, off, rfl, hc⟩
  · have : bs = [] := by simpa using h0
    subst this; simp at hl; omega
  · have hx : bs[i]? = some (bs[i]'(by omega)) := List.getElem?_eq_getElem _
    exact ⟨b, off, _, rfl, hx, hc i _ (by rw [List.getElem?_map, hx]; rfl)⟩
theorem bools_of_own {w : World} {base n cap : Nat} {a : Option Addr} {bs : List Bool} (h : w.ownsRow base 4 1 (.slice a n cap) n (bs.map Value.bool)) : BoolsRd w a n bs :=
  ⟨by have := h.1; simpa using this, rowAt_of_own h⟩
/-- One element of a slice of rows of truth values. -/
def BRowR (w : World) (cs : List Value) (bs : List Bool) : Prop := ∃ a c, cs = [.slice a bs.length c] ∧ BoolsRd w a bs.length bs
theorem bRowR_lasts : Lasts BRowR := by
  rintro w w' cs bs hb ⟨a, c, rfl, h⟩
  exact ⟨a, c, rfl, h.later hb⟩
abbrev BMat (w : World) (a : Option Addr) (len : Nat) (M : List (List Bool)) : Prop := SliceRd 1 BRowR w a len M
theorem BMat.place {w : World} {a : Option Addr} {len : Nat} {M : List (List Bool)} (h : BMat w a len M) {i : Nat} (hi : i < len) :
    ∃ b off ra rc bs, a = some ⟨b, off, none⟩ ∧ M[i]? = some bs ∧ w.cell? ⟨b, off + i, none⟩ = some (.slice ra bs.length rc) ∧ BoolsRd w ra bs.length bs := by
  obtain ⟨b, off, cs, x, rfl, hx, _, hc, ra, rc, rfl, hr⟩ := SliceRd.place h (by decide) hi
  have h0 := hc 0 _ rfl
  rw [Nat.mul_one, Nat.add_zero] at h0
  exact ⟨b, off, ra, rc, x, rfl, hx, h0, hr⟩

/-- A slice of rows of truth values, all of it owned; the rows' cells are whole. -/
structure BMatOwn (w : World) (base : Nat) (a : Option Addr) (len cap : Nat) (M : List (List Bool)) : Prop where
  length : M.length = len
  own : ∃ vals : List Value, w.ownsRow base 41 1 (.slice a len cap) len vals ∧ ∀ (i : Nat) v bs, vals[i]? = some v → M[i]? = some bs → ∃ ra rc, v = .slice ra bs.length rc ∧ w.ownsRow base 4 1 v bs.length (bs.map Value.bool)
theorem flatten_ones {α : Type} : ∀ vs : List α, (vs.map (fun v => [v])).flatten = vs
  | [] => rfl
  | v :: vs => by rw [List.map_cons, List.flatten_cons, flatten_ones vs]; rfl
theorem BMatOwn.rd {w : World} {base len cap : Nat} {a : Option Addr} {M : List (List Bool)} (h : BMatOwn w base a len cap M) : BMat w a len M := by
  obtain ⟨hl, vals, h1, h2⟩ := h
  have hvl : vals.length = len := by have := h1.1; simpa using this
  refine ⟨hl, vals.map (fun v => [v]), ?_, by simp [hvl], by simp, fun i c x hc hx => ?_⟩
  · rw [flatten_ones]
    exact rowAt_of_own h1
  · rw [List.getElem?_map] at hc
    obtain ⟨v, hv, rfl⟩ := Option.map_eq_some_iff.1 hc
    obtain ⟨ra, rc, rfl, h3⟩ := h2 i v x hv hx
    exact ⟨ra, rc, rfl, bools_of_own h3⟩
theorem BMatOwn.below {w w' : World} {base len cap : Nat} {a : Option Addr} {M : List (List Bool)} (h : BMatOwn w base a len cap M) (hb : Below w.heap.size w w') : BMatOwn w' base a len cap M := by
  obtain ⟨hl, vals, h1, h2⟩ := h
  exact ⟨hl, vals, ownsRow_below h1 hb, fun i v bs hv hm => by obtain ⟨ra, rc, rfl, h3⟩ := h2 i v bs hv hm; exact ⟨ra, rc, rfl, ownsRow_below h3 hb⟩⟩
theorem BMatOwn.start {w : World} {base : Nat} (hb : base ≤ w.heap.size) : BMatOwn (w.alloc (.cells #[] 41)) base (some ⟨w.heap.size, 0, none⟩) 0 0 [] :=
  ⟨rfl, [], own_empty _ _ _ _ hb, fun i v bs hv => by simp at hv⟩
theorem BMatOwn.nil (w : World) (base : Nat) : BMatOwn w base none 0 0 [] := ⟨rfl, [], World.ownsRow_nil _ _ _ _, fun i v bs hv => by simp at hv⟩
/-- What an append of a row of the call's own gives. -/
theorem BMatOwn.snoc {w w' : World} {base len cap a2len c' : Nat} {a a' ra : Option Addr} {rc : Nat} {M : List (List Bool)} {bs : List Bool} (h : BMatOwn w base a len cap M) (hr : w.ownsRow base 4 1 (.slice ra bs.length rc) bs.length (bs.map Value.bool))
    (vals : List Value) (hv : w.ownsRow base 41 1 (.slice a len cap) len vals) (h2 : ∀ (i : Nat) v bs, vals[i]? = some v → M[i]? = some bs → ∃ ra rc, v = .slice ra bs.length rc ∧ w.ownsRow base 4 1 v bs.length (bs.map Value.bool))
    (hg : w.grownBy w' (Value.slice a len cap).ownBlock) (hn : w'.ownsRow base 41 1 (.slice a' a2len c') a2len (vals ++ [.slice ra bs.length rc])) (ha2 : a2len = len + 1) : BMatOwn w' base a' a2len c' (M ++ [bs]) := by
  have hvl : vals.length = len := by have := hv.1; simpa using this
  have hkeep : ∀ v (n : Nat) (xs : List Value), w.ownsRow base 4 1 v n xs → w'.ownsRow base 4 1 v n xs := fun v n xs hx =>
    own_turned (S := fun k => (Value.slice a len cap).ownBlock = some k) hx (turned_of_grown hg (fun k hk => hk)) (fun k hk => own_apart hx hv (by decide) hk)
  subst ha2
  refine ⟨by simp [h.length], _, hn, fun i v bs' hi hm => ?_⟩
  rw [List.getElem?_append] at hi hm
  rw [hvl] at hi
  rw [h.length] at hm
  split at hi
  · rename_i hlt
    rw [if_pos hlt] at hm
    obtain ⟨ra', rc', rfl, h3⟩ := h2 i v bs' hi hm
    exact ⟨ra', rc', rfl, hkeep _ _ _ h3⟩
  · rename_i hlt
    rw [if_neg hlt] at hm
    have : i - len = 0 := by have := (List.getElem?_eq_some_iff.1 hi).1; simp at this; omega
    rw [this] at hi hm
    simp at hi hm
    subst hi; subst hm
    exact ⟨ra, rc, rfl, hkeep _ _ _ hr⟩

/-- The next truth value is put into a row of zeros. -/
theorem set_next_bool {bs : List Bool} {k n : Nat} {x : Bool} (h : bs[k]? = some x) (hn : bs.length = n) :
    ((bs.take k).map Value.bool ++ List.replicate (n - k) (Value.bool false)).set k (.bool x) = (bs.take (k + 1)).map Value.bool ++ List.replicate (n - (k + 1)) (Value.bool false) := by
  have hk : k < bs.length := (List.getElem?_eq_some_iff.1 h).1
  rw [List.set_append_right _ _ (by simp; omega), take_succ_of h]
  have h1 : ((bs.take k).map Value.bool).length = k := by simp; omega
  rw [h1, Nat.sub_self, show n - k = (n - (k + 1)) + 1 by omega, List.replicate_succ]
  simp
theorem reach_zero {g : List (List Int)} {v : Nat} : ¬ Reach g 0 v := by
  intro h
  induction h with
  | zero h _ => exact h rfl
  | step _ _ _ _ _ ih => exact ih
theorem reachRow_length (g : List (List Int)) (a : Int) : (reachRow g a).length = g.length := by simp [reachRow]
theorem domRow_length (g : List (List Int)) (a : Nat) : (domRow g a).length = g.length := by simp [domRow]
theorem reachRow_get {g : List (List Int)} {a : Int} {v : Nat} (h : v < g.length) : (reachRow g a)[v]? = some (reachB g a v) := by simp [reachRow, h]
theorem domRow_get {g : List (List Int)} {a v : Nat} (h : v < g.length) : (domRow g a)[v]? = some (domB g a v) := by simp [domRow, h]
theorem domMat_get {g : List (List Int)} {a : Nat} (h : a < g.length) : (domMat g)[a]? = some (domRow g a) := by simp [domMat, h]
/-- A list of truth values that is true where a is reached. -/
theorem eq_reachRow {g : List (List Int)} {a : Int} {s : List Bool} (hl : s.length = g.length) (h : ∀ v : Nat, s[v]? = some true ↔ Reach g a v) : s = reachRow g a := by
  apply List.ext_getElem?
  intro v
  by_cases hv : v < g.length
  · rw [reachRow_get hv]
    have h1 := h v
    rw [List.getElem?_eq_getElem (by omega)] at h1 ⊢
    cases hb : s[v]'(by omega) with
    | true => rw [hb] at h1; rw [reachB_true.2 (h1.1 rfl)]
    | false => rw [hb] at h1; rw [reachB_false.2 (fun hr => by have := h1.2 hr; simp at this)]
  · rw [List.getElem?_eq_none (by omega), List.getElem?_eq_none (by rw [reachRow_length]; omega)]
theorem replicate_get {n v : Nat} : (List.replicate n false)[v]? ≠ some true := by
  rw [List.getElem?_replicate]
  split <;> simp
theorem visit_all {g : List (List Int)} (hg : Fits g) : (dfs g g.length 0 (List.replicate g.length false, [])).1 = reachRow g (-1) := by
  refine eq_reachRow (by rw [(dfs_more _ _ _ _).length]; simp) (fun v => ?_)
  rw [dfs_reach (a := -1) hg [] (List.replicate g.length false) (fun v => ⟨fun h => absurd h replicate_get, fun h => by omega⟩) (by simp) (by decide)]
  exact ⟨fun h => h.elim (fun h => by omega) id, .inr⟩
theorem visit_but {g : List (List Int)} (hg : Fits g) {a : Nat} (ha : a ≠ 0) (hl : a < g.length) : (dfs g g.length 0 ((List.replicate g.length false).set a true, [])).1.set a false = reachRow g a := by
  refine eq_reachRow (by rw [List.length_set, (dfs_more _ _ _ _).length]; simp) (fun v => ?_)
  have hr := dfs_reach (a := (a : Int)) hg [] ((List.replicate g.length false).set a true) (fun v => by
    rw [List.getElem?_set]
    split
    · rename_i e; subst e; simp [hl]
    · rename_i e
      exact ⟨fun h => absurd h replicate_get, fun h => by omega⟩) (by simp) (by omega) v
  rw [List.getElem?_set]
  split
  · rename_i e
    subst e
    have : ¬ Reach g (a : Int) a := fun h => h.ne rfl
    split <;> simp [this]
  · rename_i e
    rw [hr]
    exact ⟨fun h => h.elim (fun h => by omega) id, .inr⟩
theorem visit_zero {g : List (List Int)} : ((List.replicate g.length false).set 0 true).set 0 false = reachRow g 0 := by
  refine eq_reachRow (by simp) (fun v => ?_)
  rw [List.set_set, List.getElem?_set]
  have : ¬ Reach g 0 v := reach_zero
  split
  · split <;> simp [this]
  · simp only [this, iff_false]; exact replicate_get

end Go.Proofs.YtonlidgmfmgcmaaGreat

/-
  The reference's table of what dominates what.
-/
namespace Go.Proofs.YtonlidgmfmgcmaaGreat
open Go.RowKit

/-- The state of the reference's loop over the blocks. -/
structure DS (g : List (List Int)) (C : Array Value) (sb : Nat) (w : World) (k : Nat) (oa : Option Addr) (oc : Nat) (wr : World) : Prop where
  cblk : wr.heap[w.heap.size]? = some (.cells C 52 (0, 0))
  below : Below w.heap.size w wr
  lt : w.heap.size < wr.heap.size
  all : wr.ownsRow w.heap.size 4 1 (.slice (some ⟨sb, 0, none⟩) g.length g.length) g.length ((reachRow g (-1)).map Value.bool)
  out : BMatOwn wr w.heap.size oa k oc ((domMat g).take k)
theorem DS.later {g : List (List Int)} {C : Array Value} {sb : Nat} {w : World} {k : Nat} {oa : Option Addr} {oc : Nat} {wr w' : World} (h : DS g C sb w k oa oc wr) (hb : Below wr.heap.size wr w') : DS g C sb w k oa oc w' :=
  ⟨(hb.block _ h.lt).trans h.cblk, h.below.trans (hb.mono h.below.size), Nat.lt_of_lt_of_le h.lt hb.size, ownsRow_below h.all hb, h.out.below hb⟩

theorem own_type {w : World} {base size n : Nat} {e : TypeId} {v : Value} {xs : List Value} (h : w.ownsRow base e size v n xs) {k : Nat} (hk : v.ownBlock = some k) : ∃ cur, w.heap[k]? = some (.cells cur e (0, 0)) := by
  rcases h.2 with ⟨rfl, _⟩ | ⟨g, cap, cur, rfl, _, hg, _⟩
  · simp [Value.ownBlock] at hk
  · simp only [Value.ownBlock, Option.some.injEq] at hk
    subst hk
    exact ⟨cur, hg⟩
/-- The table has grown by a row. -/
theorem DS.snoc {g : List (List Int)} {C : Array Value} {sb : Nat} {w : World} {k : Nat} {oa : Option Addr} {oc : Nat} {wr w' : World} {a' ra : Option Addr} {c' rc n' : Nat} {bs : List Bool} (h : DS g C sb w k oa oc wr) (hb : (domMat g)[k]? = some bs)
    (vals : List Value) (hv : wr.ownsRow w.heap.size 41 1 (.slice oa k oc) k vals) (h2 : ∀ (i : Nat) v bs, vals[i]? = some v → ((domMat g).take k)[i]? = some bs → ∃ ra rc, v = .slice ra bs.length rc ∧ wr.ownsRow w.heap.size 4 1 v bs.length (bs.map Value.bool))
    (hr : wr.ownsRow w.heap.size 4 1 (.slice ra bs.length rc) bs.length (bs.map Value.bool)) (hg : wr.grownBy w' (Value.slice oa k oc).ownBlock)
    (hn : w'.ownsRow w.heap.size 41 1 (.slice a' n' c') n' (vals ++ [.slice ra bs.length rc])) (hn' : n' = k + 1) : DS g C sb w (k + 1) a' c' w' := by
  refine ⟨?_, ?_, Nat.lt_of_lt_of_le h.lt hg.size, ?_, ?_⟩
  · rw [hg.block _ h.lt (fun e => ?_)]
    · exact h.cblk
    · obtain ⟨cur, hc⟩ := own_type hv e.symm
      rw [h.cblk] at hc
      simp at hc
  · exact h.below.trans ((Below.refl _ _).grown hg h.below.size (fun j hj => (hv.lt j hj).1))
  · exact own_turned (S := fun j => (Value.slice oa k oc).ownBlock = some j) h.all (turned_of_grown hg (fun j hj => hj)) (fun j hj => own_apart h.all hv (by decide) hj)
  · rw [take_succ_of hb]
    subst hn'
    exact h.out.snoc hr vals hv h2 hg hn rfl

section
variable {w : World} {ops : Array Oper} {rest : List Oper} {o : Oper} {a : Act} {Q : Exit → Act → World → Prop}
end

theorem made_bools (n : Nat) : (madeCells (Value.bool false).cells (n * 1)).toList = (List.replicate n false).map Value.bool := by
  rw [Nat.mul_one, show (Value.bool false).cells = #[Value.bool false] from rfl, toList_madeCells_one, List.map_replicate]

theorem two_blocks (w : World) (P Q : Obj) : ((w.alloc P).alloc Q).heap[w.heap.size]? = some P ∧ ((w.alloc P).alloc Q).heap[w.heap.size + 1]? = some Q ∧ ((w.alloc P).alloc Q).heap.size = w.heap.size + 2 ∧ Below w.heap.size w ((w.alloc P).alloc Q) :=
  ⟨heap_alloc2_old w P Q, heap_alloc2_new w P Q, by simp, ((Below.refl _ _).alloc (Nat.le_refl _) _).alloc (by simp) _⟩
theorem bmat_empty {w : World} {base b : Nat} (h : w.heap[b]? = some (.cells #[] 41 (0, 0))) (hb : base ≤ b) : BMatOwn w base (some ⟨b, 0, none⟩) 0 0 [] :=
  ⟨rfl, [], ⟨by simp, .inr ⟨b, 0, #[], rfl, hb, h, Nat.le_refl _, Nat.zero_le _, rfl, rfl⟩⟩, fun i v bs hv => by simp at hv⟩

theorem two_stores {g : List (List Int)} {k : Nat} {wr w3 : World} {base : Nat} (hz : k = 0) (hb3 : Below wr.heap.size wr w3) (hown3 : w3.ownsRow base 4 1 (.slice (some ⟨wr.heap.size, 0, none⟩) g.length g.length) g.length ((List.replicate g.length false).map Value.bool)) :
    ∀ w4, (w3.setCell ⟨wr.heap.size, k, none⟩ (.bool true)).setCell ⟨wr.heap.size, k, none⟩ (.bool false) = w4 → Below wr.heap.size wr w4 ∧ w4.ownsRow base 4 1 (.slice (some ⟨wr.heap.size, 0, none⟩) g.length g.length) g.length ((reachRow g k).map Value.bool) := by
  rintro w4 rfl
  have h1 := ((hown3.stored k (.bool true)).1.stored k (.bool false)).1
  subst hz
  refine ⟨(hb3.setCell (Nat.le_refl _) _).setCell (Nat.le_refl _) _, ?_⟩
  rw [show (((0 : Nat) : Int)) = 0 from rfl, ← visit_zero, List.map_set, List.map_set]
  exact h1

end Go.Proofs.YtonlidgmfmgcmaaGreat
