
/-
  The reference's table of what dominates what.
-/
import Derived.Test.YtkhnhdgbbjppeaaBools
namespace Go.Proofs.Ytkhnhdgbbjppeaa
open Go.RowKit

/-- The state of the reference's loop over the blocks. -/
structure DS (g : List (List Int)) (C : Array Value) (sb : Nat) (w : World) (k : Nat) (oa : Option Addr) (oc : Nat) (wr : World) : Prop where
  cblk : wr.heap[w.heap.size]? = some (.cells C 51 (0, 0))
  below : Below w.heap.size w wr
  lt : w.heap.size < wr.heap.size
  all : wr.ownsRow w.heap.size 4 1 (.slice (some ⟨sb, 0, none⟩) g.length g.length) g.length ((reachRow g (-1)).map Value.bool)
  out : BMatOwn wr w.heap.size oa k oc ((domMat g).take k)
theorem DS.later {g : List (List Int)} {C : Array Value} {sb : Nat} {w : World} {k : Nat} {oa : Option Addr} {oc : Nat} {wr w' : World} (h : DS g C sb w k oa oc wr) (hb : Below wr.heap.size wr w') : DS g C sb w k oa oc w' :=
  ⟨(hb.block _ h.lt).trans h.cblk, h.below.trans (hb.mono h.below.size), Nat.lt_of_lt_of_le h.lt hb.size, ownsRow_below h.all hb, h.out.below hb⟩

theorem own_type {w : World} {base size n : Nat} {e : TypeId} {v : Value} {xs : List Value} (h : w.ownsRow base e size v n xs) {k : Nat} (hk : v.ownBlock = some k) : ∃ cur, w.heap[k]? = some (.cells cur e (0, 0)) := by
  rcases h.2 with ⟨rfl, _⟩ | ⟨g, cap, cur, rfl, _, hg, _⟩
  · simp [Value.ownBlock] at hk
  · simp only [Value.ownBlock, Option.some.injEq] at hk
    subst hk
    exact ⟨cur, hg⟩
/-- The table has grown by a row. -/
theorem DS.snoc {g : List (List Int)} {C : Array Value} {sb : Nat} {w : World} {k : Nat} {oa : Option Addr} {oc : Nat} {wr w' : World} {a' ra : Option Addr} {c' rc n' : Nat} {bs : List Bool} (h : DS g C sb w k oa oc wr) (hb : (domMat g)[k]? = some bs)
    (vals : List Value) (hv : wr.ownsRow w.heap.size 124 1 (.slice oa k oc) k vals) (h2 : ∀ (i : Nat) v bs, vals[i]? = some v → ((domMat g).take k)[i]? = some bs → ∃ ra rc, v = .slice ra bs.length rc ∧ wr.ownsRow w.heap.size 4 1 v bs.length (bs.map Value.bool))
    (hr : wr.ownsRow w.heap.size 4 1 (.slice ra bs.length rc) bs.length (bs.map Value.bool)) (hg : wr.grownBy w' (Value.slice oa k oc).ownBlock)
    (hn : w'.ownsRow w.heap.size 124 1 (.slice a' n' c') n' (vals ++ [.slice ra bs.length rc])) (hn' : n' = k + 1) : DS g C sb w (k + 1) a' c' w' := by
  refine ⟨?_, ?_, Nat.lt_of_lt_of_le h.lt hg.size, ?_, ?_⟩
  · rw [hg.block _ h.lt (fun e => ?_)]
    · exact h.cblk
    · obtain ⟨cur, hc⟩ := own_type hv e.symm
      rw [h.cblk] at hc
      simp at hc
  · exact h.below.trans ((Below.refl _ _).grown hg h.below.size (fun j hj => (hv.lt j hj).1))
  · exact own_turned (S := fun j => (Value.slice oa k oc).ownBlock = some j) h.all (turned_of_grown hg (fun j hj => hj)) (fun j hj => own_apart h.all hv (by decide) hj)
  · rw [take_succ_of hb]
    subst hn'
    exact h.out.snoc hr vals hv h2 hg hn rfl

section
variable {w : World} {ops : Array Oper} {rest : List Oper} {o : Oper} {a : Act} {Q : Exit → Act → World → Prop}
/-- append onto rows of truth values of the call's own, in a plain region. -/
theorem app_bools (hgd : o.guard = none) (s x : Operand) (ho : o.op = .call { callee := .builtin .append, args := #[s, x], argTypes := #[103, 103] })
    (base : Nat) (v : Value) (n : Nat) (xs : List Value) (hs : a.eval s = v) (hown : w.ownsRow base 124 1 v n xs)
    (ao : Option Addr) (c : Nat) (y : Value) (hx : a.eval x = .slice ao 1 c) (hrow : RowAt w ao [y]) (hnil : ao = none → c = 0) (h1 : y.oneCell' = true)
    (hb : n + 1 ≤ 1099511627776) (hbase : base ≤ w.heap.size)
    (h : ∀ a' c' w', w'.ownsRow base 124 1 (.slice a' (n + 1) c') (n + 1) (xs ++ [y]) → w.grownBy w' v.ownBlock → wpList Try.prog ops Q rest (a.put o.dst (.slice a' (n + 1) c')) w') : wpList Try.prog ops Q (o :: rest) a w := by
  obtain ⟨i0, hi, hz0, hz1, hz2⟩ := info_parts info_bools
  exact wpList_append_any hgd s x 103 ho base 124 i0 (.slice none 0 0) 1 24 und_bmat hi hz0 hz1 hz2 rfl (by decide) v n xs hs hown ao 1 c _ hx rfl hrow hnil (by simp [h1]) (by unfold maxLen; omega) (by omega) hbase (fun a' c' w' g1 g2 _ => h a' c' w' g1 g2)
end

theorem made_bools (n : Nat) : (madeCells (Value.bool false).cells (n * 1)).toList = (List.replicate n false).map Value.bool := by
  rw [Nat.mul_one, show (Value.bool false).cells = #[Value.bool false] from rfl, toList_madeCells_one, List.map_replicate]

theorem two_blocks (w : World) (P Q : Obj) : ((w.alloc P).alloc Q).heap[w.heap.size]? = some P ∧ ((w.alloc P).alloc Q).heap[w.heap.size + 1]? = some Q ∧ ((w.alloc P).alloc Q).heap.size = w.heap.size + 2 ∧ Below w.heap.size w ((w.alloc P).alloc Q) :=
  ⟨heap_alloc2_old w P Q, heap_alloc2_new w P Q, by simp, ((Below.refl _ _).alloc (Nat.le_refl _) _).alloc (by simp) _⟩
theorem bmat_empty {w : World} {base b : Nat} (h : w.heap[b]? = some (.cells #[] 124 (0, 0))) (hb : base ≤ b) : BMatOwn w base (some ⟨b, 0, none⟩) 0 0 [] :=
  ⟨rfl, [], ⟨by simp, .inr ⟨b, 0, #[], rfl, hb, h, Nat.le_refl _, Nat.zero_le _, rfl, rfl⟩⟩, fun i v bs hv => by simp at hv⟩

theorem two_stores {g : List (List Int)} {k : Nat} {wr w3 : World} {base : Nat} (hz : k = 0) (hb3 : Below wr.heap.size wr w3) (hown3 : w3.ownsRow base 4 1 (.slice (some ⟨wr.heap.size, 0, none⟩) g.length g.length) g.length ((List.replicate g.length false).map Value.bool)) :
    ∀ w4, (w3.setCell ⟨wr.heap.size, k, none⟩ (.bool true)).setCell ⟨wr.heap.size, k, none⟩ (.bool false) = w4 → Below wr.heap.size wr w4 ∧ w4.ownsRow base 4 1 (.slice (some ⟨wr.heap.size, 0, none⟩) g.length g.length) g.length ((reachRow g k).map Value.bool) := by
  rintro w4 rfl
  have h1 := ((hown3.stored k (.bool true)).1.stored k (.bool false)).1
  subst hz
  refine ⟨(hb3.setCell (Nat.le_refl _) _).setCell (Nat.le_refl _) _, ?_⟩
  rw [show (((0 : Nat) : Int)) = 0 from rfl, ← visit_zero, List.map_set, List.map_set]
  exact h1

set_option maxRecDepth 100000 in
set_option maxHeartbeats 4000000 in
theorem l11Doms_any (g : List (List Int)) (hf : Fits g) (p r : Int) (ba : Option Addr) (bc : Nat) (w : World) (hg : Gr w ba g) :
    Calls Try.prog 101 #[.agg #[.int .i64 p, .int .i64 r, .slice ba g.length bc]] w fun e w' =>
      ∃ a c, e = .returned (.slice a g.length c) ∧ BMatOwn w' w.heap.size a g.length c (domMat g) ∧ Below w.heap.size w w' := by
  obtain ⟨i0, hi, hz0, hz1, hz2⟩ := info_parts info_bool
  have hlen := hg.len
  have hpos := hf.pos
  have HI := Lib.hid (And.intro hi (And.intro hz0 (And.intro hz1 hz2)))
  clear hi hz0 hz1 hz2
  go_enter Try.func101, Try.ntmps101
  go_wp2_with (at_make; refine wpList_make_full _ rfl _ _ 124 rfl w.heap.size 4 i0 (.bool false) 1 und_bools HI.out.1 HI.out.2.1 HI.out.2.2.1 _ _ _ _ g.length rfl rfl rfl rfl (by rw [HI.out.2.2.2]; omega) (by unfold maxLen; omega) (by simp; omega) ?_; intro w1 hown hg1; (have HH := two_blocks w (.cells #[.int .i64 p, .int .i64 r, .slice ba g.length bc] 51) (.cells #[] 124)); (generalize (w.alloc (.cells #[.int .i64 p, .int .i64 r, .slice ba g.length bc] 51)).alloc (.cells #[] 124) = WA at HH hown hg1 ⊢); obtain ⟨hA0, hA1, hA2, hA3⟩ := HH; rw [hA2] at hown ⊢; rw [made_bools] at hown; (have hb1 : Below (w.heap.size + 2) WA w1 := (Below.refl _ _).grown hg1 (by omega) (by simp)); (have hB0 := (hb1.block _ (by omega)).trans hA0); (have hB1 := (hb1.block _ (by omega)).trans hA1); (have hk0 : w1.cell? ⟨w.heap.size, 0, none⟩ = some (.int .i64 p) := cell_of_row _ _ 0 _ _ _ hB0); (have hk1 : w1.cell? ⟨w.heap.size, 1, none⟩ = some (.int .i64 r) := cell_of_row _ _ 1 _ _ _ hB0); (have hk2 : w1.cell? ⟨w.heap.size, 2, none⟩ = some (.slice ba g.length bc) := cell_of_row _ _ 2 _ _ _ hB0))
  have hw1 : w.heap.size + 3 ≤ w1.heap.size := by have := (hown.lt (w.heap.size + 2) rfl).2; omega
  have hbw : Below w.heap.size w w1 := hA3.trans (hb1.mono (by omega))
  go_wp2_with fail
  refine (l10Visit_any g hf p r ba bc w hg (w.heap.size + 2) g.length 0 (List.replicate g.length false, []) (some ⟨w1.heap.size, 0, none⟩) 0 _ (hbw.alloc (by omega) _) (hown.alloc _) (own_empty _ _ _ _ (by omega)) (by have := unseen_le (List.replicate g.length false); simp at this ⊢; omega) hpos (by unfold seenAt; simp [hpos]) (by have := unseen_le (List.replicate g.length false); simpa using this)).mono ?_
  rintro e w2 ⟨oa', oc', rfl, hv⟩
  have hvs := hv.seen
  simp only [Int.cast_ofNat_Int] at hvs
  rw [visit_all hf] at hvs
  have hnb : ∀ k, k < w.heap.size + 2 → w2.heap[k]? = w1.heap[k]? := fun k hk => by
    have h1 := hv.turned.block k (by simp; omega) (fun h => by
      rcases h with h | h
      · omega
      · simp only [Value.ownBlock, Option.some.injEq] at h; omega)
    rw [h1]
    exact heap_alloc_old w1 _ (by omega)
  have hDS : DS g #[.int .i64 p, .int .i64 r, .slice ba g.length bc] (w.heap.size + 2) w 0 (some ⟨w.heap.size + 1, 0, none⟩) 0 w2 := by
    refine ⟨(hnb _ (by omega)).trans hB0, ?_, ?_, hvs, ?_⟩
    · refine (hbw.alloc (by omega) _).trans (hv.turned.below (by simp; omega) (fun k hk => ?_))
      rcases hk with h | h
      · omega
      · simp only [Value.ownBlock, Option.some.injEq] at h; omega
    · have := hv.turned.size; simp at this; omega
    · exact bmat_empty ((hnb _ (by omega)).trans hB1) (by omega)
  have HDS := Lib.hid hDS
  clear hDS hnb hvs hv hbw hw1 hk0 hk1 hk2 hB0 hB1 hb1 hA0 hA1 hA2 hA3 hown hg1
  go_wp2
  go_loopw [4, 6] (fun o i wr => ∃ k : Nat, k ≤ g.length ∧ i = .int .i64 k ∧ ∃ oa oc, o = .slice oa k oc ∧ Hid (DS g #[.int .i64 p, .int .i64 r, .slice ba g.length bc] (w.heap.size + 2) w k oa oc wr)) (fun _ i _ => g.length - (intOf i).toNat)
  case atStart => exact ⟨0, Nat.zero_le _, rfl, _, _, rfl, HDS⟩
  case round =>
    obtain ⟨k, hk, rfl, oa, oc, rfl, HK⟩ := hrel
    clear HDS
    by_cases hlt : k < g.length
    · have hki : (k : Int) < (g.length : Int) := by omega
      have hwlt := HK.out.lt
      have hwne : w.heap.size ≠ wr.heap.size := by omega
      by_cases hz : k = 0
      case' pos =>
        have hne : ((k : Int) != 0) = false := by subst hz; rfl
        have HZ := Lib.hid hz
        clear hz
        go_wp2_with (at_make; first | (refine wpList_make_full _ rfl _ _ 124 rfl wr.heap.size 4 i0 (.bool false) 1 und_bools HI.out.1 HI.out.2.1 HI.out.2.2.1 _ _ _ _ g.length rfl rfl rfl rfl (by rw [HI.out.2.2.2]; omega) (by unfold maxLen; omega) (Nat.le_refl _) ?_; intro w3 hown3 hg3; rw [made_bools] at hown3; (have hb3 : Below wr.heap.size wr w3 := (Below.refl _ _).grown hg3 (Nat.le_refl _) (by simp)); (have hcs : w3.cell? ⟨wr.heap.size, k, none⟩ = some (.bool false) := by rw [hown3.cellAt k (by omega), List.getElem?_map, List.getElem?_replicate, if_pos hlt]; rfl); (have hfs := hown3.frozenAt k); (have hB3 := (hb3.block _ HK.out.lt).trans HK.out.cblk); (have hk0 : w3.cell? ⟨w.heap.size, 0, none⟩ = some (.int .i64 p) := cell_of_row _ _ 0 _ _ _ hB3); (have hk1 : w3.cell? ⟨w.heap.size, 1, none⟩ = some (.int .i64 r) := cell_of_row _ _ 1 _ _ _ hB3); (have hk2 : w3.cell? ⟨w.heap.size, 2, none⟩ = some (.slice ba g.length bc) := cell_of_row _ _ 2 _ _ _ hB3); clear hB3) | ((have HW4 : Hid (∀ w4, (w3.setCell ⟨wr.heap.size, k, none⟩ (.bool true)).setCell ⟨wr.heap.size, k, none⟩ (.bool false) = w4 → Below wr.heap.size wr w4 ∧ w4.ownsRow wr.heap.size 4 1 (.slice (some ⟨wr.heap.size, 0, none⟩) g.length g.length) g.length ((reachRow g k).map Value.bool)) := Lib.hid (two_stores HZ.out hb3 hown3)); (generalize hw4 : World.setCell _ _ _ = w4); (obtain ⟨hb4, hs4⟩ := HW4.out w4 hw4); clear hw4 HW4; refine wpList_make_full _ rfl _ _ 124 rfl w.heap.size 4 i0 (.bool false) 1 und_bools HI.out.1 HI.out.2.1 HI.out.2.2.1 _ _ _ _ g.length rfl rfl rfl rfl (by rw [HI.out.2.2.2]; omega) (by unfold maxLen; omega) (by have := hb4.size; omega) ?_; intro w6 hown6 hg6; rw [made_bools] at hown6; (have hb6 : Below w4.heap.size w4 w6 := (Below.refl _ _).grown hg6 (Nat.le_refl _) (by simp))))
      case' neg =>
        have hne : ((k : Int) != 0) = true := by simp [hz]
        have HZ := Lib.hid hz
        clear hz
        go_wp2_with (at_make; refine wpList_make_full _ rfl _ _ 124 rfl wr.heap.size 4 i0 (.bool false) 1 und_bools HI.out.1 HI.out.2.1 HI.out.2.2.1 _ _ _ _ g.length rfl rfl rfl rfl (by rw [HI.out.2.2.2]; omega) (by unfold maxLen; omega) (Nat.le_refl _) ?_; intro w3 hown3 hg3; rw [made_bools] at hown3; (have hb3 : Below wr.heap.size wr w3 := (Below.refl _ _).grown hg3 (Nat.le_refl _) (by simp)); (have hcs : w3.cell? ⟨wr.heap.size, k, none⟩ = some (.bool false) := by rw [hown3.cellAt k (by omega), List.getElem?_map, List.getElem?_replicate, if_pos hlt]; rfl); (have hfs := hown3.frozenAt k); (have hB3 := (hb3.block _ HK.out.lt).trans HK.out.cblk); (have hk0 : w3.cell? ⟨w.heap.size, 0, none⟩ = some (.int .i64 p) := cell_of_row _ _ 0 _ _ _ hB3); (have hk1 : w3.cell? ⟨w.heap.size, 1, none⟩ = some (.int .i64 r) := cell_of_row _ _ 1 _ _ _ hB3); (have hk2 : w3.cell? ⟨w.heap.size, 2, none⟩ = some (.slice ba g.length bc) := cell_of_row _ _ 2 _ _ _ hB3); clear hB3)
        have hbsz3 := hb3.size
        have he1 : ((w3.setCell ⟨wr.heap.size, k, none⟩ (.bool true)).alloc (.cells #[] 3)).ownsRow wr.heap.size 3 1 (.slice (some ⟨w3.heap.size, 0, none⟩) 0 0) 0 [] := by
          have := own_empty (w3.setCell ⟨wr.heap.size, k, none⟩ (.bool true)) wr.heap.size 3 1 (by rw [World.size_setCell]; exact hbsz3)
          rwa [World.size_setCell] at this
        have he2 : Below wr.heap.size wr ((w3.setCell ⟨wr.heap.size, k, none⟩ (.bool true)).alloc (.cells #[] 3)) := (hb3.setCell (Nat.le_refl _) _).alloc (by rw [World.size_setCell]; exact hbsz3) _
        have he3 : ((w3.setCell ⟨wr.heap.size, k, none⟩ (.bool true)).alloc (.cells #[] 3)).ownsRow wr.heap.size 4 1 (.slice (some ⟨wr.heap.size, 0, none⟩) g.length g.length) g.length (((List.replicate g.length false).set k true).map Value.bool) := by rw [List.map_set]; exact (hown3.stored k (.bool true)).1.alloc _
        have hun : unseen ((List.replicate g.length false).set k true) ≤ g.length := by have := unseen_le ((List.replicate g.length false).set k true); simpa using this
        have hsa : seenAt ((List.replicate g.length false).set k true) ((0 : Nat) : Int) = false := by
          have hz := HZ.out
          unfold seenAt
          rw [List.getD_eq_getElem?_getD, Int.toNat_natCast, List.getElem?_set, if_neg hz, List.getElem?_replicate, if_pos hpos]; rfl
        refine (l10Visit_any g hf p r ba bc wr (hg.later HK.out.below) wr.heap.size g.length 0 ((List.replicate g.length false).set k true, []) (some ⟨w3.heap.size, 0, none⟩) 0 _ he2 he3 he1 (by simp only [List.length_nil, Nat.zero_add]; omega) hpos hsa hun).mono ?_
        rintro e w5 ⟨oa5, oc5, rfl, hv5⟩
        have hcs5 : w5.cell? ⟨wr.heap.size, k, none⟩ = some (.bool true) := by
          rw [hv5.seen.cellAt k (by omega), List.getElem?_map, (dfs_more _ _ _ _).more k (by rw [List.getElem?_set]; simp [hlt])]; rfl
        have hfs5 := hv5.seen.frozenAt k
        have HW4 : Hid (∀ w4, w5.setCell ⟨wr.heap.size, k, none⟩ (.bool false) = w4 → Below wr.heap.size wr w4 ∧ w4.ownsRow wr.heap.size 4 1 (.slice (some ⟨wr.heap.size, 0, none⟩) g.length g.length) g.length ((reachRow g k).map Value.bool)) := by
          refine Lib.hid ?_
          rintro w4 rfl
          have h1 := (hv5.seen.stored k (.bool false)).1
          refine ⟨?_, ?_⟩
          · refine Below.setCell (p := ⟨wr.heap.size, k, none⟩) ?_ (Nat.le_refl _) _
            refine ((hb3.setCell (Nat.le_refl _) _).alloc (by have := hb3.size; simp; omega) _).trans (hv5.turned.below (by have := hb3.size; simp; omega) (fun j hj => ?_))
            rcases hj with h | h
            · omega
            · simp only [Value.ownBlock, Option.some.injEq] at h; have := hb3.size; omega
          · rw [← visit_but hf HZ.out hlt, List.map_set]
            exact h1
        go_wp2_with (at_make; (generalize hw4 : World.setCell _ _ _ = w4); (obtain ⟨hb4, hs4⟩ := HW4.out w4 hw4); clear hw4 HW4; refine wpList_make_full _ rfl _ _ 124 rfl w.heap.size 4 i0 (.bool false) 1 und_bools HI.out.1 HI.out.2.1 HI.out.2.2.1 _ _ _ _ g.length rfl rfl rfl rfl (by rw [HI.out.2.2.2]; omega) (by unfold maxLen; omega) (by have := hb4.size; omega) ?_; intro w6 hown6 hg6; rw [made_bools] at hown6; (have hb6 : Below w4.heap.size w4 w6 := (Below.refl _ _).grown hg6 (Nat.le_refl _) (by simp)))
      all_goals
        have hb46 : Below wr.heap.size wr w6 := hb4.trans (hb6.mono hb4.size)
        have HD6 := Lib.hid (And.intro (HK.out.later hb46) (And.intro (ownsRow_below hs4 hb6) (And.intro (hs4.lt wr.heap.size rfl).2 (HK.out.all.lt (w.heap.size + 2) rfl).2)))
        have HR0 := Lib.hid hown6
        have hw46 := hb4.size
        have HB46 := Lib.hid (And.intro hb46 hw46)
        clear hb46 hb6 hb4 hs4 hown6 hg6 hb3 hown3 hg3 hcs hfs hk0 hk1 hk2
        go_wp2
        go_loopw [9] (fun j wq => ∃ m : Nat, m ≤ g.length ∧ j = .int .i64 m ∧ Hid (Turned (fun x => x = w4.heap.size) w6 wq ∧ wq.ownsRow w.heap.size 4 1 (.slice (some ⟨w4.heap.size, 0, none⟩) g.length g.length) g.length (((domRow g k).take m).map Value.bool ++ List.replicate (g.length - m) (Value.bool false)))) (fun j _ => g.length - (intOf j).toNat)
        case atStart => exact ⟨0, Nat.zero_le _, rfl, Lib.hid ⟨Turned.refl _ _, by have := HR0.out; rw [List.map_replicate] at this; simpa using this⟩⟩
        case round =>
          obtain ⟨m, hm, rfl, HM⟩ := hrel
          have hsl := HD6.out.2.2
          by_cases hlt2 : m < g.length
          · have hal := own_turned HD6.out.1.all HM.out.1 (fun j hj hx => by simp only [Value.ownBlock, Option.some.injEq] at hj; omega)
            have hse := own_turned HD6.out.2.1 HM.out.1 (fun j hj hx => by simp only [Value.ownBlock, Option.some.injEq] at hj; omega)
            have hc1 := hal.cellAt k (by omega)
            have hc2 := hal.cellAt m (by omega)
            have hc3 := hse.cellAt m (by omega)
            have hc4 := HM.out.2.cellAt m (by omega)
            have hc5 := HM.out.2.frozenAt m
            have hdl := domRow_length g k
            rw [List.getElem?_map, reachRow_get (by omega), Option.map_some] at hc1 hc2 hc3
            rw [List.getElem?_append_right (by simp; omega)] at hc4
            simp only [List.length_map, List.length_take, hdl, Nat.min_eq_left hm, Nat.sub_self] at hc4
            rw [List.getElem?_replicate, if_pos (by omega)] at hc4
            have HX := Lib.hid (domRow_get (g := g) (a := k) hlt2)
            unfold domB at HX
            have hst := fun v => HM.out.2.stored m (.bool v)
            have HT := Lib.hid hst
            clear hst hal hse
            generalize reachB g (-1) k = va at hc1 HX
            generalize reachB g (-1) m = vb at hc2 HX
            generalize reachB g k m = vs at hc3 HX
            have HM1 := Lib.hid HM.out.1
            have HS := Lib.hid (fun v (hv : (domRow g k)[m]? = some v) => (set_next_bool hv hdl) ▸ (HT.out v).1)
            clear HM hdl hsl
            cases va <;> cases vb <;> cases vs <;> (
              go_wp2
              go_roundw
              case rel => exact ⟨m + 1, by omega, by go_num, Lib.hid ⟨HM1.out.trans (turned_of_grown (HT.out _).2 (fun j hj => by cases hj; rfl)), HS.out _ HX.out⟩⟩
              case measure => simp [intOf]; omega)
          · obtain rfl : m = g.length := by omega
            have hdl := domRow_length g k
            have hrw := HM.out.2
            rw [Nat.sub_self, List.replicate_zero, List.append_nil, List.take_of_length_le (by omega)] at hrw
            have hDq : DS g #[.int .i64 p, .int .i64 r, .slice ba g.length bc] (w.heap.size + 2) w k oa oc wr := HK.out.later (HB46.out.1.trans (HM.out.1.below HB46.out.1.size (fun j hj => by have := HB46.out.2; omega)))
            obtain ⟨_, vals, hvals, hv2⟩ := hDq.out
            have hrl : (domRow g k).length = g.length := hdl
            go_wp2_with (at_builtin; refine app_bools rfl (.tmp 69) (.tmp 71) rfl w.heap.size _ k vals rfl (hvals.alloc _) _ _ _ rfl (rowAt_one _ _ _) (by rintro ⟨⟩) rfl (by omega) (by have := hDq.below.size; simp; omega) ?_; intro a7 c7 w7 hown7 hg7)
            go_roundw
            case rel =>
              refine ⟨k + 1, by omega, by go_num, a7, c7, rfl, Lib.hid ?_⟩
              have hba : Below wr.heap.size wr (wr.alloc (.cells #[.slice (some ⟨w4.heap.size, 0, none⟩) g.length g.length] 124)) := (Below.refl _ _).alloc (Nat.le_refl _) _
              refine (hDq.later hba).snoc (domMat_get hlt) vals (hvals.alloc _) (fun i v bs h1 h3 => ?_) (ra := some ⟨w4.heap.size, 0, none⟩) (rc := g.length) ?_ hg7 ?_ rfl
              · obtain ⟨ra, rc, rfl, h4⟩ := hv2 i v bs h1 h3
                exact ⟨ra, rc, rfl, h4.alloc _⟩
              · rw [hdl]; exact hrw.alloc _
              · rw [hdl]; exact hown7
            case measure => simp [intOf]; omega
    · obtain rfl : k = g.length := by omega
      go_wp2
      go_ret
      have hd := HK.out
      refine ⟨oa, oc, rfl, ?_, hd.below⟩
      have := hd.out
      rwa [List.take_of_length_le (by simp [domMat])] at this

end Go.Proofs.Ytkhnhdgbbjppeaa
