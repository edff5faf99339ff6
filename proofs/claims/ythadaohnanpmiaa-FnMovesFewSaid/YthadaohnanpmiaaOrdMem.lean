/-
  Ordering moves: what lies in memory meanwhile (what is left, what is out, no two rows in one place), the library's slices.Delete, and the program's two closures.
-/
import Derived.Test.YthadaohnanpmiaaOrdPlain
import Derived.Test.YthadaohnanpmiaaDraw
import Derived.Test.YthadaohnanpmiaaOnce
namespace Go.Proofs.Ythadaohnanpmiaa
open Go.RowKit

/-! ### Delete -/
theorem run_clear_one {P : Program} (w : World) (t e : TypeId) (i : TypeInfo) (z : Value) (ht : P.underlying t = some (.slice e)) (hi : P.info? e = some i) (hz : i.zero = some z) (hone : z.cells = #[z]) (h1 : z.oneCell' = true)
    (a : Addr) (c : Nat) (u : Value) (hc : w.cell? a = some u) (hf : w.frozen? a = false) (ty : TypeId) :
    (Builtin.clear_ #[t] ty #[.slice (some a) 1 c]).run P w = .ok (.tuple #[]) (w.setCell a z) := by
  simp [Builtin.clear_, run_underlying ht, zeroValue, typeInfo, hi, hz, hone, Builtin.zeroCells, storeCells, Addr.add, run_store _ _ _ _ _ h1, hc, hf, Result.andThen]

/-- append within the capacity, from whatever source, in a region that draws. -/
theorem step_fits_rows {w : World} {ops : Array Oper} {o : Oper} {a : Act} {K : Act → World → Prop} {Q : Exit → Act → World → Prop} {E : Prop} (hgd : o.guard = none) (s x : Operand)
    (ho : o.op = .call { callee := .builtin .append, args := #[s, x], argTypes := #[31, 31] })
    (base g k cap : Nat) (xs : List Value) (hs : a.eval s = .slice (some ⟨g, 0, none⟩) k cap) (hown : w.ownsRow base 22 1 (.slice (some ⟨g, 0, none⟩) k cap) k xs)
    (ao : Option Addr) (m c : Nat) (news : List Value) (hx : a.eval x = .slice ao m c) (hl : news.length = m) (hrow : RowAt w ao news) (hnil : ao = none → c = 0) (h1 : ∀ u ∈ news, u.oneCell' = true) (hroom : k + m ≤ cap)
    (h : ∀ w', w'.ownsRow base 22 1 (.slice (some ⟨g, 0, none⟩) (k + m) cap) (k + m) (xs ++ news) → w.grownBy w' (some g) → K (a.put o.dst (.slice (some ⟨g, 0, none⟩) (k + m) cap)) w') :
    if Region.wanted o (yielded ops a.tmps) = true then Oper.wp Try.prog o a w K Q else E := by
  obtain ⟨i0, hi, hz0, hz1, hz2⟩ := info_parts info_ints
  have hw : Region.wanted o (yielded ops a.tmps) = true := by simp [Region.wanted, hgd]
  rw [if_pos hw]
  have key : ∃ w', (Builtin.append_ #[31, 31] o.type #[.slice (some ⟨g, 0, none⟩) k cap, .slice ao m c]).run Try.prog w = .ok (.slice (some ⟨g, 0, none⟩) (k + m) cap) w' ∧
      w'.ownsRow base 22 1 (.slice (some ⟨g, 0, none⟩) (k + m) cap) (k + m) (xs ++ news) ∧ w.grownBy w' (some g) := by
    cases ao with
    | some ad => exact run_append_fits w base 31 o.type 22 i0 1 und_mat hi hz1 g k cap xs hown ad m c news (by omega) hrow.cells h1 hroom
    | none =>
      have hc : c = 0 := hnil rfl
      have hn : news = [] := by
        rcases hrow with h | ⟨_, _, h, _⟩
        · exact h
        · cases h
      subst hc hn
      obtain rfl : m = 0 := by simpa using hl.symm
      exact ⟨w, run_append_owned_none (P := Try.prog) w base 31 o.type 22 i0 1 und_mat hi _ k xs hown, by simpa using hown, World.grownBy.refl _ _⟩
  obtain ⟨w', hr, h2, h3⟩ := key
  unfold Oper.wp execOp
  simp only [ho, resolve, invoke, builtin, Sem.run_bind, Sem.run_pure, Result.andThen_ok, List.map_toArray, List.map_cons, List.map_nil, hs, hx, hr]
  exact h w' h2 h3

/-- append of one row onto rows of the call's own, in a region that draws. -/
theorem step_app_row {w : World} {ops : Array Oper} {o : Oper} {a : Act} {K : Act → World → Prop} {Q : Exit → Act → World → Prop} {E : Prop} (hgd : o.guard = none) (s x : Operand)
    (ho : o.op = .call { callee := .builtin .append, args := #[s, x], argTypes := #[31, 31] })
    (base : Nat) (v : Value) (n : Nat) (xs : List Value) (hs : a.eval s = v) (hown : w.ownsRow base 22 1 v n xs)
    (ao : Option Addr) (c : Nat) (y : Value) (hx : a.eval x = .slice ao 1 c) (hrow : RowAt w ao [y]) (hone : y.oneCell' = true)
    (hb : n + 1 ≤ 1099511627776) (hbase : base ≤ w.heap.size)
    (h : ∀ a' c' w', w'.ownsRow base 22 1 (.slice a' (n + 1) c') (n + 1) (xs ++ [y]) → w.grownBy w' v.ownBlock →
      ((Value.slice a' (n + 1) c').ownBlock = v.ownBlock ∨ (Value.slice a' (n + 1) c').ownBlock = some w.heap.size) → K (a.put o.dst (.slice a' (n + 1) c')) w') :
    if Region.wanted o (yielded ops a.tmps) = true then Oper.wp Try.prog o a w K Q else E := by
  obtain ⟨i0, hi, hz0, hz1, hz2⟩ := info_parts info_ints
  exact step_append_any hgd s x 31 ho base 22 i0 (.slice none 0 0) 1 24 und_mat hi hz0 hz1 hz2 rfl (by decide) v n xs hs hown ao 1 c _ hx (by simp) hrow (by
    rintro rfl
    rcases hrow with h | ⟨_, _, h, _⟩
    · cases h
    · cases h) (by simpa using hone) (by unfold maxLen; omega) (by omega) hbase h

/-- append of rows onto rows of the call's own, in a region that draws. -/
theorem step_app_rows {w : World} {ops : Array Oper} {o : Oper} {a : Act} {K : Act → World → Prop} {Q : Exit → Act → World → Prop} {E : Prop} (hgd : o.guard = none) (s x : Operand)
    (ho : o.op = .call { callee := .builtin .append, args := #[s, x], argTypes := #[31, 31] })
    (base : Nat) (v : Value) (n : Nat) (xs : List Value) (hs : a.eval s = v) (hown : w.ownsRow base 22 1 v n xs)
    (ao : Option Addr) (m c : Nat) (news : List Value) (hx : a.eval x = .slice ao m c) (hl : news.length = m) (hrow : RowAt w ao news) (hnil : ao = none → c = 0) (hone : ∀ u ∈ news, u.oneCell' = true)
    (hb : n + m ≤ 1099511627776) (hbase : base ≤ w.heap.size)
    (h : ∀ a' c' w', w'.ownsRow base 22 1 (.slice a' (n + m) c') (n + m) (xs ++ news) → w.grownBy w' v.ownBlock →
      ((Value.slice a' (n + m) c').ownBlock = v.ownBlock ∨ (Value.slice a' (n + m) c').ownBlock = some w.heap.size) → K (a.put o.dst (.slice a' (n + m) c')) w') :
    if Region.wanted o (yielded ops a.tmps) = true then Oper.wp Try.prog o a w K Q else E := by
  obtain ⟨i0, hi, hz0, hz1, hz2⟩ := info_parts info_ints
  exact step_append_any hgd s x 31 ho base 22 i0 (.slice none 0 0) 1 24 und_mat hi hz0 hz1 hz2 rfl (by decide) v n xs hs hown ao m c _ hx (by simpa using hl) hrow hnil hone (by unfold maxLen; omega) (by omega) hbase h

/-- A cell behind the elements of what the call owns. -/
theorem own_beyond {w : World} {base : Nat} {e : TypeId} {g n cap : Nat} {xs : List Value} (h : w.ownsRow base e 1 (.slice (some ⟨g, 0, none⟩) n cap) n xs) {j : Nat} (h1 : n ≤ j) (h2 : j < cap) :
    (∃ u, w.cell? ⟨g, j, none⟩ = some u) ∧ w.frozen? ⟨g, j, none⟩ = false ∧ ∀ v, (w.setCell ⟨g, j, none⟩ v).ownsRow base e 1 (.slice (some ⟨g, 0, none⟩) n cap) n xs ∧ w.grownBy (w.setCell ⟨g, j, none⟩ v) (some g) := by
  refine ⟨?_, h.frozenAt j, fun v => ⟨?_, ⟨rfl, rfl, rfl, by simp [World.setCell], fun k _ hne => heap_setCell_other w _ k _ (by rintro rfl; exact hne rfl)⟩⟩⟩
  · rcases h.2 with ⟨hv, _⟩ | ⟨g', cap', cur, hv, hb, hg, _, _, h3, h4⟩
    · simp at hv
    · simp only [Value.slice.injEq, Option.some.injEq, Addr.mk.injEq, and_true, true_and] at hv
      obtain ⟨rfl, rfl⟩ := hv
      rw [cell_of_row w g j cur e (0, 0) hg]
      exact ⟨_, Array.getElem?_eq_getElem (by omega)⟩
  · refine ⟨h.1, ?_⟩
    rcases h.2 with ⟨hv, _⟩ | ⟨g', cap', cur, hv, hb, hg, h5, h6, h3, h4⟩
    · simp at hv
    · simp only [Value.slice.injEq, Option.some.injEq, Addr.mk.injEq, and_true, true_and] at hv
      obtain ⟨rfl, rfl⟩ := hv
      refine .inr ⟨g, cap, _, rfl, hb, heap_setCell_same w g j cur e v hg, h5, h6, by simpa using h3, ?_⟩
      rw [← h4, Array.toList_setIfInBounds, List.take_set_of_le (by omega)]

theorem own_prefix {w : World} {base : Nat} {e : TypeId} {g n cap : Nat} {xs : List Value} (h : w.ownsRow base e 1 (.slice (some ⟨g, 0, none⟩) n cap) n xs) {k : Nat} (hk : k ≤ n) : w.ownsRow base e 1 (.slice (some ⟨g, 0, none⟩) k cap) k (xs.take k) := by
  have hl := h.1
  rcases h.2 with ⟨hv, _⟩ | ⟨g', cap', cur, hv, hb, hg, h1, h2, h3, h4⟩
  · simp at hv
  · simp only [Value.slice.injEq, Option.some.injEq, Addr.mk.injEq, and_true, true_and] at hv
    obtain ⟨rfl, rfl⟩ := hv
    refine ⟨by simp; omega, .inr ⟨g, cap, cur, rfl, hb, hg, by omega, h2, h3, ?_⟩⟩
    rw [← h4, List.take_take]
    congr 1
    omega

set_option maxHeartbeats 1000000 in
theorem delete_any (lo g n cap k : Nat) (vs : List Value) (w : World) (hown : w.ownsRow lo 22 1 (.slice (some ⟨g, 0, none⟩) n cap) n vs) (hvs : ∀ u ∈ vs, u.oneCell' = true) (hk : k < n) (hn : n ≤ 1099511627776) :
    Calls Try.prog 69 #[.slice (some ⟨g, 0, none⟩) n cap, .int .i64 k, .int .i64 ((k : Int) + 1)] w fun e w' =>
      e = .returned (.slice (some ⟨g, 0, none⟩) (n - 1) cap) ∧ w'.ownsRow lo 22 1 (.slice (some ⟨g, 0, none⟩) (n - 1) cap) (n - 1) (vs.eraseIdx k) ∧ w.grownBy w' (some g) := by
  have hcap := (own_cap hown).1
  have hne : ((k : Int) == (k : Int) + 1) = false := by simp; omega
  have hlen : vs.length = n := by simpa using hown.1
  have hrow := rowAt_of_own hown
  have hcut := hrow.cut (k + 1) cap (by omega)
  simp only [Nat.zero_add] at hcut
  replace hcut := RowAt.drew hcut
  have hpre := own_prefix hown (show k ≤ n by omega)
  have HE : Hid (vs.take k ++ vs.drop (k + 1) = vs.eraseIdx k) := Lib.hid (List.eraseIdx_eq_take_drop_succ vs k).symm
  have HK : Hid (k + (n - (k + 1)) = n - 1) := Lib.hid (by omega)
  have hn1 : n - (n - 1) = 1 := by omega
  have HL := Lib.hid hlen
  have hkc : k ≤ cap := by omega
  have hkn : k + 1 ≤ n := by omega
  have hkz : (0 : Int) ≤ (k : Int) + 1 := by omega
  have hki : (k : Int) + 1 ≤ (n : Int) := by omega
  clear hlen
  go_enter Try.func69, Try.ntmps69
  go_wp2
  go_region_law (refine step_fits_rows rfl (.tmp 22) (.tmp 25) rfl lo g k cap (vs.take k) rfl hpre _ (n - (k + 1)) _ (vs.drop (k + 1)) rfl (by have := HL.out; simp; omega) hcut (by split <;> rintro ⟨⟩) (fun u hu => hvs u (List.mem_of_mem_drop hu)) (by omega) ?_; intro w2 hown2 hg2; rw [HE.out, HK.out] at hown2; rw [HK.out])
  have hg2' : w.grownBy w2 (some g) := ⟨hg2.1, hg2.2, hg2.3, hg2.4, hg2.5⟩
  obtain ⟨⟨u, hcu⟩, hfu, hset⟩ := own_beyond hown2 (j := n - 1) (Nat.le_refl _) (by omega)
  obtain ⟨i0, hi, hz0, hz1, hz2⟩ := info_parts info_ints
  have hclr := fun c ty => run_clear_one (P := Try.prog) w2 31 22 i0 (.slice none 0 0) und_mat hi hz0 rfl rfl ⟨g, n - 1, none⟩ c u hcu hfu ty
  have HC := Lib.hid hclr
  have HS := Lib.hid hset
  clear hclr hset hi hz0 hz1 hz2 hcu hfu
  go_wp2
  all_goals (rw [HC.out]; simp only [Result.andThen])
  all_goals go_wp2
  all_goals go_ret
  all_goals (refine ⟨?_, (HS.out _).1, hg2'.trans (HS.out _).2⟩; first | rfl | (have hx : cap = k + 1 := (by omega); rw [hx]; rfl))

/-! ### the closures -/
set_option maxHeartbeats 400000 in
theorem ordInner_any (ao am : Option Addr) (co cm bx : Nat) (o m : Int × Int) (w : World) (ho : IntsRd w ao 2 (enc o)) (hm : IntsRd w am 2 (enc m)) (hbx : w.cell? ⟨bx, 0, none⟩ = some (.slice am 2 cm)) :
    Calls Try.prog 68 #[.slice ao 2 co, .pointer (some ⟨bx, 0, none⟩)] w fun e w' => e = .returned (.bool (o.2 == m.1)) ∧ ∃ q, w' = w.drewN q := by
  obtain ⟨o1, o2⟩ := o
  obtain ⟨m1, m2⟩ := m
  obtain ⟨bo, oo, rfl, hc0, hc1⟩ := two_cells ho
  obtain ⟨bm, om, rfl, hd0, hd1⟩ := two_cells hm
  go_enter Try.func68, Try.ntmps68
  go_wp2
  go_quiet (fail)
  go_wp2
  go_ret
  exact ⟨rfl, _, rfl⟩

/-- The rows are these moves. -/
def RowsAre (rows : List Hd) (ps : List (Int × Int)) : Prop := rows.map Hd.xs = ps.map enc
theorem RowsAre.get {rows : List Hd} {ps : List (Int × Int)} (h : RowsAre rows ps) {k : Nat} {r : Hd} (hr : rows[k]? = some r) : ∃ m, ps[k]? = some m ∧ r.xs = enc m := by
  have h1 : (rows.map Hd.xs)[k]? = some r.xs := by rw [List.getElem?_map, hr]; rfl
  rw [h, List.getElem?_map] at h1
  obtain ⟨m, hm, he⟩ := Option.map_eq_some_iff.1 h1
  exact ⟨m, hm, he.symm⟩
theorem RowsAre.length {rows : List Hd} {ps : List (Int × Int)} (h : RowsAre rows ps) : rows.length = ps.length := by
  have := congrArg List.length h
  simpa using this
theorem any_rows {rows : List Hd} {ps : List (Int × Int)} (h : RowsAre rows ps) (x : Int) : (rows.any fun r => r.xs.getD 1 0 == x) = ps.any fun o => o.2 == x := by
  have e1 : (rows.any fun r => r.xs.getD 1 0 == x) = (rows.map Hd.xs).any (fun l => l.getD 1 0 == x) := by rw [List.any_map]; rfl
  have e2 : (ps.any fun o => o.2 == x) = (ps.map enc).any (fun l => l.getD 1 0 == x) := by rw [List.any_map]; rfl
  rw [e1, e2, h]
theorem isFree_any (ps : List (Int × Int)) (m : Int × Int) : isFree ps m = !(ps.any fun o => o.2 == m.1) := by
  unfold isFree
  induction ps with
  | nil => rfl
  | cons o ps ih =>
    rw [List.all_cons, List.any_cons, ih, Bool.not_or]
    congr 1

set_option maxHeartbeats 400000 in
theorem ordOuter_any (ar : Option Addr) (cr bl : Nat) (al : Option Addr) (nl cl : Nat) (m : Int × Int) (left : List Hd) (ps : List (Int × Int)) (w : World) (hr : IntsRd w ar 2 (enc m)) (hbl : w.cell? ⟨bl, 0, none⟩ = some (.slice al nl cl)) (hleft : MatRd w al nl left) (hps : RowsAre left ps)
    (hs : nl ≤ 1099511627776) :
    Calls Try.prog 66 #[.slice ar 2 cr, .pointer (some ⟨bl, 0, none⟩)] w fun e w' => e = .returned (.bool (isFree ps m)) ∧ Below w.heap.size w w' := by
  have hmf : ∀ (fn : Fn) (first cap : Array Value) (w : World), (Instr.makeFunc fn first cap).run Try.prog w = .ok (.func fn first cap) w := fun _ _ _ _ => rfl
  have hb0 : Below w.heap.size w (w.alloc (.cells #[.slice ar 2 cr] 22)) := (Below.refl _ _).alloc (Nat.le_refl _) _
  have hleft0 := hleft.later hb0
  have hbl0 := cell_later hb0 hbl
  have hbx0 : (w.alloc (.cells #[.slice ar 2 cr] 22)).cell? ⟨w.heap.size, 0, none⟩ = some (.slice ar 2 cr) := by rw [World.cell?_alloc_at _ _ _ _ rfl]; rfl
  have hr0 := hr.later hb0
  have hfn : BoolFn (w.alloc (.cells #[.slice ar 2 cr] 22)) 68 #[.pointer (some ⟨w.heap.size, 0, none⟩)] left (fun r => r.xs.getD 1 0 == m.1) := by
    refine ⟨fun _ _ => rfl, fun r hrm W hW => ?_⟩
    obtain ⟨j, hj⟩ := List.getElem?_of_mem hrm
    obtain ⟨o, _, ho⟩ := hps.get hj
    have h1 := (hleft0.rows r hrm).later hW
    obtain ⟨ra, rc, rx⟩ := r
    simp only at ho h1
    subst ho
    exact (ordInner_any ra ar rc cr w.heap.size o m W h1 (hr0.later hW) (cell_later hW hbx0)).mono fun _ _ ⟨he, q, hq⟩ => ⟨he, by rw [hq]; exact below_drewN (Below.refl _ _) q⟩
  have HV : Hid ((!left.any fun r => r.xs.getD 1 0 == m.1) = isFree ps m) := Lib.hid (by rw [any_rows hps, isFree_any])
  clear hbx0 hr0 hleft hbl
  go_enter Try.func66, Try.ntmps66
  go_wp2_with fail
  refine (containsFunc_any _ _ _ al nl cl left _ hleft0 hfn hs).mono ?_
  rintro e w1 ⟨rfl, hb1⟩
  have hb01 := hb0.trans (hb1.mono hb0.size)
  go_wp2
  go_ret
  exact ⟨ret_bool HV.out, hb01⟩

end Go.Proofs.Ythadaohnanpmiaa
