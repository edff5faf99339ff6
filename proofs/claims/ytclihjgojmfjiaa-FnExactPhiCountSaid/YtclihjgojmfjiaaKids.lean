/-
  The blocks of which a block is the nearest dominator: the reference's list and the program's.
-/
import Derived.Test.YtclihjgojmfjiaaIdoms
namespace Go.Proofs.Ytclihjgojmfjiaa
open Go.RowKit

/-- The numbers below k of which p holds. -/
def filtTo (p : Nat → Bool) (k : Nat) : List Int := ((List.range k).filter p).map (fun i : Nat => (i : Int))
theorem filtTo_succ (p : Nat → Bool) (k : Nat) : filtTo p (k + 1) = if p k then filtTo p k ++ [(k : Int)] else filtTo p k := by
  unfold filtTo
  rw [List.range_succ, List.filter_append]
  by_cases h : p k = true
  · simp [h]
  · simp [h]
theorem filtTo_len (p : Nat → Bool) (k : Nat) : (filtTo p k).length ≤ k := by
  unfold filtTo
  rw [List.length_map]
  have := List.length_filter_le p (List.range k)
  simpa using this
theorem filtTo_congr {p q : Nat → Bool} {k : Nat} (h : ∀ i, i < k → p i = q i) : filtTo p k = filtTo q k := by
  unfold filtTo
  rw [List.filter_congr (fun i hi => h i (by simpa using hi))]
theorem filtTo_none {p : Nat → Bool} {k : Nat} (h : ∀ i, i < k → p i = false) : filtTo p k = [] := by
  unfold filtTo
  rw [List.filter_eq_nil_iff.2 (fun i hi => by rw [h i (by simpa using hi)]; decide)]
  rfl

/-- The state of a loop that gathers numbers. -/
structure Gath (w : World) (xs : List Int) (oa : Option Addr) (on oc : Nat) (wr : World) : Prop where
  row : wr.ownsRow w.heap.size 3 1 (.slice oa on oc) on (xs.map (Value.int .i64))
  below : Below w.heap.size w wr
theorem Gath.len {w wr : World} {xs : List Int} {oa : Option Addr} {on oc : Nat} (h : Gath w xs oa on oc wr) : on = xs.length := by have := h.row.1; simp at this; omega
theorem Gath.later {w wr w' : World} {xs : List Int} {oa : Option Addr} {on oc : Nat} (h : Gath w xs oa on oc wr) (hb : Below wr.heap.size wr w') : Gath w xs oa on oc w' := ⟨ownsRow_below h.row hb, h.below.trans (hb.mono h.below.size)⟩
theorem Gath.start (w : World) : Gath w [] (some ⟨w.heap.size, 0, none⟩) 0 0 (w.alloc (.cells #[] 3)) := ⟨own_empty _ _ _ _ (Nat.le_refl _), (Below.refl _ _).alloc (Nat.le_refl _) _⟩
theorem Gath.nil (w : World) : Gath w [] none 0 0 w := ⟨World.ownsRow_nil _ _ _ _, Below.refl _ _⟩
theorem Gath.push {w wr w' : World} {xs : List Int} {oa a' : Option Addr} {on oc c' : Nat} {v : Int} (h : Gath w xs oa on oc wr) (hr : w'.ownsRow w.heap.size 3 1 (.slice a' (on + 1) c') (on + 1) (xs.map (Value.int .i64) ++ [v].map (Value.int .i64))) (hg : (wr.alloc (.cells #[.int .i64 v] 3)).grownBy w' (Value.slice oa on oc).ownBlock) : Gath w (xs ++ [v]) a' (on + 1) c' w' :=
  ⟨by rw [List.map_append]; exact hr, (h.below.alloc h.below.size _).grown hg (by have := h.below.size; simp; omega) (fun k hk => (h.row.lt k hk).1)⟩
theorem Gath.ret {w wr : World} {xs : List Int} {oa : Option Addr} {on oc : Nat} (h : Gath w xs oa on oc wr) : RetInts w xs xs.length (.returned (.slice oa on oc)) wr := by
  have := h.len
  subst this
  exact ⟨_, _, rfl, h.row, h.below⟩

def kidsOf (xs : List Int) (b : Int) : List Int := filtTo (fun i => xs.getD i 0 == b) xs.length
noncomputable def kidsP (g : List (List Int)) (b : Int) : List Int := if inP g b then kidsOf (idoms g) b else []

set_option maxRecDepth 100000 in
set_option maxHeartbeats 1000000 in
theorem l11Kids_any (a : Option Addr) (cap : Nat) (xs : List Int) (b : Int) (w : World) (hin : IntsRd w a xs.length xs) (hlen : xs.length ≤ 1048576) :
    Calls Try.prog 69 #[.slice a xs.length cap, .int .i64 b] w fun e w' => RetInts w (kidsOf xs b) (kidsOf xs b).length e w' := by
  have HG0 := Lib.hid (Gath.start w)
  go_enter Try.func69, Try.ntmps69
  go_wp2
  go_loopg [5, 6] xs.length (fun F o i wr => ∃ k : Nat, k + F = xs.length ∧ i = .int .i64 k ∧ ∃ oa on oc, o = .slice oa on oc ∧ Hid (Gath w (filtTo (fun i => xs.getD i 0 == b) k) oa on oc wr))
  case atStart => exact ⟨0, by omega, rfl, _, _, _, rfl, HG0⟩
  case round =>
    obtain ⟨k, hk, rfl, oa, on, oc, rfl, HG⟩ := hrel
    clear HG0
    by_cases hlt : k < xs.length
    · obtain ⟨b1, o1, x, rfl, hx, hc⟩ := (hin.later HG.out.below).place hlt
      have hon : on ≤ 1048576 := by have := HG.out.len; have := filtTo_len (fun i => xs.getD i 0 == b) k; omega
      have hszw := HG.out.below.size
      have hgd : xs.getD k 0 = x := by rw [List.getD_eq_getElem?_getD, hx]; rfl
      have HSU := Lib.hid (filtTo_succ (fun i => xs.getD i 0 == b) k)
      have HX := Lib.hid hgd
      clear hx hgd
      by_cases hxb : x = b
      · have heq : (x == b) = true := by simpa using hxb
        have HP := Lib.hid (show (xs.getD k 0 == b) = true by rw [HX.out, heq])
        clear hxb
        go_wp2_with (at_builtin; refine app_ints rfl (.tmp 20) (.tmp 22) rfl w.heap.size _ on _ rfl (HG.out.row.alloc _) _ 1 _ [(k : Int)] rfl rfl (rowAt_one _ _ _) (by rintro ⟨⟩) (by omega) (by simp; omega) ?_; intro a5 c5 w5 hown5 hg5 hlies5)
        have HN := Lib.hid (HG.out.push hown5 hg5)
        clear hown5 hg5 hlies5
        go_roundg (gk - 1)
        case measure => omega
        case rel => exact ⟨k + 1, by omega, by go_num, a5, _, c5, rfl, Lib.hid (by rw [HSU.out, if_pos HP.out]; exact HN.out)⟩
      · have heq : (x == b) = false := by simpa using hxb
        have HP := Lib.hid (show ¬ (xs.getD k 0 == b) = true by rw [HX.out, heq]; decide)
        clear hxb
        go_wp2
        go_roundg (gk - 1)
        case measure => omega
        case rel => exact ⟨k + 1, by omega, by go_num, _, _, _, rfl, Lib.hid (by rw [HSU.out, if_neg HP.out]; exact HG.out)⟩
    · obtain rfl : k = xs.length := by omega
      go_wp2
      go_ret
      exact HG.out.ret

theorem kidsOf_idoms (g : List (List Int)) (b : Int) : kidsOf (idoms g) b = filtTo (fun i => idomP g i == b) g.length := by
  unfold kidsOf
  rw [idoms_length]
  exact filtTo_congr (fun i hi => by rw [List.getD_eq_getElem?_getD, idoms_get hi]; rfl)
theorem kidsP_le {w : World} {ba : Option Addr} {g : List (List Int)} (h : Gr w ba g) (b : Int) : (kidsP g b).length ≤ 1048576 := by
  have := h.len
  unfold kidsP
  split
  · rw [kidsOf_idoms]; have := filtTo_len (fun i => idomP g i == b) g.length; omega
  · simp
theorem kidsP_of {g : List (List Int)} {b : Int} (hf : Fits g) : kidsP g b = if hasP g b then filtTo (fun i => reachB g (-1) i && idomP g i == b) g.length else [] := by
  rw [kidsP, inP, hasP, fits_iff.2 hf, Bool.true_and, kidsOf_idoms]
  by_cases ho : okN g.length b = true
  · have hb := okN_iff.1 ho
    rw [ho, Bool.true_and, if_pos rfl]
    have hc : filtTo (fun i => reachB g (-1) i && idomP g i == b) g.length = filtTo (fun i => idomP g i == b) g.length := filtTo_congr (fun i _ => by
      cases hr : reachB g (-1) i with
      | true => simp
      | false =>
        rw [idomP_unreached hr]
        have : (-1 == b) = false := by simp; omega
        simp [this])
    by_cases hr : reachB g (-1) b.toNat = true
    · rw [if_pos hr, hc]
    · rw [if_neg hr]
      refine filtTo_none (fun i _ => ?_)
      rcases bestOf_range g (idomB g i) g.length with h1 | ⟨m, _, h2, h3⟩
      · have : idomP g i = -1 := h1
        rw [this]; simp; omega
      · have h4 : idomP g i = (m : Int) := h3
        rw [h4]
        have h5 : domB g m i = true := by simp only [idomB, Bool.and_eq_true] at h2; exact h2.2
        have h6 := (domB_has h5).1
        have : ¬ (m : Int) = b := fun e => by
          subst e
          rw [Int.toNat_natCast] at hr
          exact hr h6
        simpa using this
  · have ho' : okN g.length b = false := by simpa using ho
    rw [ho']; rfl

set_option maxRecDepth 100000 in
theorem specDomKids_any (p r : Int) (ba : Option Addr) (bc : Nat) (g : List (List Int)) (b : Int) (w : World) (hg : Gr w ba g) :
    Calls Try.prog 32 #[.agg #[.int .i64 p, .int .i64 r, .slice ba g.length bc], .int .i64 b] w fun e w' => RetInts w (kidsP g b) (kidsP g b).length e w' := by
  have hb0 := below_box w (.int .i64 p) (.int .i64 r) (.slice ba g.length bc)
  have HC := Lib.hid (heap_alloc_new w (.cells #[.int .i64 p, .int .i64 r, .slice ba g.length bc] 29))
  have hlen := hg.len
  go_enter Try.func32, Try.ntmps32
  go_wp2_with fail
  refine (l11In_any p r ba bc g b _ (hg.later hb0)).mono ?_
  rintro e w1 ⟨rfl, hb1⟩
  have hb01 := hb0.trans (hb1.mono hb0.size)
  have hC1 := (hb1.block w.heap.size (by simp)).trans HC.out
  have hk0 : w1.cell? ⟨w.heap.size, 0, none⟩ = some (.int .i64 p) := cell_of_row _ _ 0 _ _ _ hC1
  have hk1 : w1.cell? ⟨w.heap.size, 1, none⟩ = some (.int .i64 r) := cell_of_row _ _ 1 _ _ _ hC1
  have hk2 : w1.cell? ⟨w.heap.size, 2, none⟩ = some (.slice ba g.length bc) := cell_of_row _ _ 2 _ _ _ hC1
  clear hC1
  cases hf : inP g b with
  | false =>
    have HP := Lib.hid (show kidsP g b = [] by rw [kidsP, hf]; rfl)
    clear hf
    have hs := hb01.size
    go_wp2
    go_ret
    rw [HP.out]
    exact ⟨_, _, rfl, own_empty w1 w.heap.size 3 1 hs, hb01.alloc hs _⟩
  | true =>
    have HP := Lib.hid (show kidsP g b = kidsOf (idomsP g) b by rw [kidsP, hf, idomsP, fits_iff.2 (inP_true.1 hf).1]; rfl)
    clear hf
    go_wp2_with fail
    refine (specIdomsOf_any p r ba bc g w1 (hg.later hb01)).mono ?_
    rintro e w2 ⟨a2, c2, rfl, hown2, hb2⟩
    have hb02 := hb01.trans (hb2.mono hb01.size)
    have HO := Lib.hid (ints_of_own hown2).toIntsRd
    clear hown2
    go_wp2_with fail
    refine (l11Kids_any a2 c2 (idomsP g) b w2 HO.out (idomsP_le hg)).mono ?_
    rintro e w3 ⟨a3, c3, rfl, hown3, hb3⟩
    have HO3 := Lib.hid (And.intro hown3 hb3)
    clear hown3 hb3
    go_wp2
    go_ret
    rw [HP.out]
    exact ⟨_, _, rfl, own_lower HO3.out.1 (fun k hk => by have := (HO3.out.1.lt k hk).1; have := hb02.size; omega), hb02.trans (HO3.out.2.mono hb02.size)⟩

set_option maxRecDepth 100000 in
set_option maxHeartbeats 1000000 in
theorem kids_any (p r : Int) (ba : Option Addr) (bc : Nat) (g : List (List Int)) (db : Nat) (oa : Option Addr) (oc sb : Nat) (b : Int) (w : World) (hD : DomsAt w p r ba bc g db oa oc sb) (hlen : g.length ≤ 1048576) :
    Calls Try.prog 70 #[.pointer (some ⟨db, 0, none⟩), .int .i64 b] w fun e w' => RetInts w (filtTo (fun i => reachB g (-1) i && idomP g i == b) g.length) (filtTo (fun i => reachB g (-1) i && idomP g i == b) g.length).length e w' := by
  have HG0 := Lib.hid (Gath.nil w)
  have hd4 : w.cell? ⟨db, 4, none⟩ = some (.slice (some ⟨sb, 0, none⟩) g.length g.length) := cell_of_row _ _ 4 _ _ _ hD.blk
  have HD := Lib.hid hD
  clear hD
  go_enter Try.func70, Try.ntmps70
  go_wp2
  clear hd4
  go_loopg [5, 12] g.length (fun F o i wr => ∃ k : Nat, k + F = g.length ∧ i = .int .i64 k ∧ ∃ oa on oc, o = .slice oa on oc ∧ Hid (Gath w (filtTo (fun i => reachB g (-1) i && idomP g i == b) k) oa on oc wr))
  case atStart => exact ⟨0, by omega, rfl, _, _, _, rfl, HG0⟩
  case round =>
    obtain ⟨k, hk, rfl, oa', on, oc', rfl, HG⟩ := hrel
    clear HG0
    by_cases hlt : k < g.length
    · have hDr := HD.out.later HG.out.below
      have hd4 : wr.cell? ⟨db, 4, none⟩ = some (.slice (some ⟨sb, 0, none⟩) g.length g.length) := cell_of_row _ _ 4 _ _ _ hDr.blk
      obtain ⟨b1, o1, vi, hab, hvi, hci⟩ := hDr.inn.place hlt
      rw [reachRow_get hlt] at hvi
      cases hvi
      cases hab
      rw [Nat.zero_add] at hci
      have hon : on ≤ 1048576 := by have := HG.out.len; have := filtTo_len (fun i => reachB g (-1) i && idomP g i == b) k; omega
      have HSU := Lib.hid (filtTo_succ (fun i => reachB g (-1) i && idomP g i == b) k)
      generalize reachB g (-1) k = vi at hci HSU
      cases vi with
      | false =>
        clear hDr
        go_wp2
        go_roundg (gk - 1)
        case measure => omega
        case rel => exact ⟨k + 1, by omega, by go_num, _, _, _, rfl, Lib.hid (by rw [HSU.out, if_neg (by simp)]; exact HG.out)⟩
      | true =>
        go_wp2_with fail
        refine (idom_any p r ba bc g db oa oc sb k hlt wr hDr hlen).mono ?_
        generalize idomP g k = x at HSU
        rintro e w4 ⟨rfl, hb4⟩
        have HG4 := Lib.hid (HG.out.later hb4)
        have hszw := HG4.out.below.size
        clear hDr hb4 hd4 hci HG
        by_cases hxb : x = b
        · have heq : (x == b) = true := by simpa using hxb
          rw [heq] at HSU
          clear hxb
          go_wp2_with (at_builtin; refine app_ints rfl (.tmp 29) (.tmp 31) rfl w.heap.size _ on _ rfl (HG4.out.row.alloc _) _ 1 _ [(k : Int)] rfl rfl (rowAt_one _ _ _) (by rintro ⟨⟩) (by omega) (by simp; omega) ?_; intro a5 c5 w5 hown5 hg5 hlies5)
          have HN := Lib.hid (HG4.out.push hown5 hg5)
          clear hown5 hg5 hlies5
          go_roundg (gk - 1)
          case measure => omega
          case rel => exact ⟨k + 1, by omega, by go_num, a5, _, c5, rfl, Lib.hid (by rw [HSU.out, if_pos (by simp)]; exact HN.out)⟩
        · have heq : (x == b) = false := by simpa using hxb
          rw [heq] at HSU
          clear hxb
          go_wp2
          go_roundg (gk - 1)
          case measure => omega
          case rel => exact ⟨k + 1, by omega, by go_num, _, _, _, rfl, Lib.hid (by rw [HSU.out, if_neg (by simp)]; exact HG4.out)⟩
    · obtain rfl : k = g.length := by omega
      go_wp2
      go_ret
      exact HG.out.ret

set_option maxRecDepth 100000 in
theorem implDomKids_any (p r : Int) (ba : Option Addr) (bc : Nat) (g : List (List Int)) (b : Int) (w : World) (hg : Gr w ba g) :
    Calls Try.prog 33 #[.agg #[.int .i64 p, .int .i64 r, .slice ba g.length bc], .int .i64 b] w fun e w' => RetInts w (kidsP g b) (kidsP g b).length e w' := by
  have hb0 := below_box w (.int .i64 p) (.int .i64 r) (.slice ba g.length bc)
  have hlen := hg.len
  go_enter Try.func33, Try.ntmps33
  go_wp2_with fail
  refine (domsOf_any g p r ba bc _ (hg.later hb0)).mono ?_
  rintro e w1 ⟨hb1, hcase⟩
  have hb01 := hb0.trans (hb1.mono hb0.size)
  rcases hcase with ⟨hf, rfl⟩ | ⟨hf, db, oa, oc, sb, rfl, hD⟩
  · have HP := Lib.hid (show kidsP g b = [] by rw [kidsP, inP, hf]; rfl)
    clear hf
    go_wp2_with fail
    refine (has_nil b w1).mono ?_
    rintro e w2 ⟨rfl, hb2⟩
    have hb02 := hb01.trans (hb2.mono hb01.size)
    go_wp2
    go_ret
    rw [HP.out]
    exact ⟨none, 0, rfl, World.ownsRow_nil _ _ _ _, hb02⟩
  · have HP := Lib.hid (kidsP_of (b := b) hf)
    go_wp2_with fail
    refine (has_any p r ba bc g db oa oc sb b w1 hD hlen).mono ?_
    rintro e w2 ⟨rfl, hb2⟩
    have hb02 := hb01.trans (hb2.mono hb01.size)
    have hD2 := hD.later hb2
    cases hh : hasP g b with
    | false =>
      have HH := Lib.hid (show kidsP g b = [] by rw [HP.out, hh]; rfl)
      clear hh
      go_wp2
      go_ret
      rw [HH.out]
      exact ⟨none, 0, rfl, World.ownsRow_nil _ _ _ _, hb02⟩
    | true =>
      have HH := Lib.hid (show kidsP g b = _ by rw [HP.out, hh, if_pos rfl])
      clear hh
      go_wp2_with fail
      refine (kids_any p r ba bc g db oa oc sb b w2 hD2 hlen).mono ?_
      rw [← HH.out]
      rintro e w3 ⟨a3, c3, rfl, hown3, hb3⟩
      have HO3 := Lib.hid (And.intro hown3 hb3)
      clear hown3 hb3
      go_wp2
      go_ret
      exact ⟨_, _, rfl, own_lower HO3.out.1 (fun k hk => by have := (HO3.out.1.lt k hk).1; have := hb02.size; omega), hb02.trans (HO3.out.2.mono hb02.size)⟩

end Go.Proofs.Ytclihjgojmfjiaa
