
/-
  The places that set registers: the program's walk.
-/
import Derived.Test.YtkhnhdgbbjppeaaSets
import Derived.Test.YtkhnhdgbbjppeaaNest
namespace Go.Proofs.Ytkhnhdgbbjppeaa
open Go.RowKit

theorem info_place : (Try.prog.info? 78).map (fun i => (i.zero, i.size, i.bytes)) = some (some (.agg #[.int .i64 0, .int .i64 0]), 2, 16) := by kernel_rfl
theorem und_places : Try.prog.underlying 79 = some (.slice 78) := by kernel_rfl
theorem info_places : (Try.prog.info? 79).map (fun i => (i.zero, i.size, i.bytes)) = some (some (.slice none 0 0), 1, 24) := by kernel_rfl
theorem und_placess : Try.prog.underlying 80 = some (.slice 79) := by kernel_rfl

def madeP (x : InsD) : Int := if makesB x.op then x.to else -1
theorem implMadeBy_any (cs : List Value) (x : InsD) (w : World) (hR : InsR w cs x) :
    Calls Try.prog 107 #[.agg cs.toArray] w fun e w' => e = .returned (.int .i64 (madeP x)) ∧ Below w.heap.size w w' := by
  obtain ⟨aa, ac, rfl, _, _⟩ := hR
  obtain ⟨op, tr, args, num⟩ := x
  have hb0 : Below w.heap.size w (w.alloc (.cells #[.int .i64 op, .int .i64 tr, .slice aa args.length ac, .int .i64 num] 72)) := (Below.refl _ _).alloc (Nat.le_refl _) _
  cases hv : makesB op with
  | false =>
    have HM := Lib.hid (show madeP ⟨op, tr, args, num⟩ = -1 by simp [madeP, hv])
    go_enter Try.func107, Try.ntmps107
    go_wp2_with fail
    refine (sets_any op _).mono ?_
    rw [hv]
    rintro e w1 ⟨rfl, rfl⟩
    go_wp2
    go_ret
    exact ⟨ret_int HM.out.symm, hb0⟩
  | true =>
    have HM := Lib.hid (show madeP ⟨op, tr, args, num⟩ = tr by simp [madeP, hv])
    go_enter Try.func107, Try.ntmps107
    go_wp2_with fail
    refine (sets_any op _).mono ?_
    rw [hv]
    rintro e w1 ⟨rfl, rfl⟩
    go_wp2
    go_ret
    exact ⟨ret_int HM.out.symm, hb0⟩

/-- The cells of places. -/
def plcs (ps : List Pl) : List Value := ps.flatMap (fun p => [.int .i64 p.1, .int .i64 p.2])
theorem plcs_snoc (ps : List Pl) (p : Pl) : plcs (ps ++ [p]) = plcs ps ++ [.int .i64 p.1, .int .i64 p.2] := by simp [plcs]
/-- The table of places, while it is filled. -/
structure SetI (g n : Nat) (L : List (Int × Pl)) (w wr : World) : Prop where
  nest : ∃ rows, Nest 79 78 2 w.heap.size g n rows wr ∧ ∀ (j : Nat) r ps, rows[j]? = some r → (setsP n L)[j]? = some ps → r.n = ps.length ∧ r.vs = plcs ps
  below : Below w.heap.size w wr
  lo : w.heap.size ≤ g
theorem SetI.later {g n : Nat} {L : List (Int × Pl)} {w wr w' : World} (h : SetI g n L w wr) (hb : Below wr.heap.size wr w') : SetI g n L w w' := by
  obtain ⟨rows, h1, h2⟩ := h.nest
  exact ⟨⟨rows, h1.below hb, h2⟩, h.below.trans (hb.mono h.below.size), h.lo⟩
theorem SetI.lt {g n : Nat} {L : List (Int × Pl)} {w wr : World} (h : SetI g n L w wr) : g < wr.heap.size := by
  obtain ⟨rows, h1, _⟩ := h.nest
  exact (h1.own.lt g rfl).2
theorem setsP_get {n : Nat} (L : List (Int × Pl)) {m : Nat} (hm : m < n) : ∃ ps, (setsP n L)[m]? = some ps ∧ (setsP n L).getD m [] = ps ∧ ps.length ≤ L.length := by
  have hl := setsP_len n L
  have hx : (setsP n L)[m]? = some ((setsP n L)[m]'(by omega)) := List.getElem?_eq_getElem _
  exact ⟨_, hx, by rw [List.getD_eq_getElem?_getD, hx]; rfl, setsP_small hx⟩
theorem SetI.get {g n : Nat} {L : List (Int × Pl)} {w wr : World} (h : SetI g n L w wr) {m : Nat} (hm : m < n) :
    ∃ rows r ps, Nest 79 78 2 w.heap.size g n rows wr ∧ (∀ (j : Nat) r ps, rows[j]? = some r → (setsP n L)[j]? = some ps → r.n = ps.length ∧ r.vs = plcs ps) ∧ rows[m]? = some r ∧ (setsP n L)[m]? = some ps ∧ r.n = ps.length ∧ r.vs = plcs ps ∧ r.n ≤ L.length ∧ wr.cell? ⟨g, m, none⟩ = some (.slice r.a r.n r.cap) ∧ wr.frozen? ⟨g, m, none⟩ = false ∧ wr.ownsRow w.heap.size 78 2 (.slice r.a r.n r.cap) r.n r.vs := by
  obtain ⟨rows, h1, h2⟩ := h.nest
  obtain ⟨r, h3, h4, h5, h6⟩ := h1.get hm
  obtain ⟨ps, h7, _, h8⟩ := setsP_get L hm
  obtain ⟨h9, h10⟩ := h2 m r ps h3 h7
  exact ⟨rows, r, ps, h1, h2, h3, h7, h9, h10, by omega, h4, h5, h6⟩
theorem SetI.start {g n : Nat} {w w1 : World} (h : w1.ownsRow w.heap.size 79 1 (.slice (some ⟨g, 0, none⟩) n n) n (List.replicate n (.slice none 0 0))) (hb : Below w.heap.size w w1) (hlo : w.heap.size ≤ g) : SetI g n [] w w1 := by
  refine ⟨⟨_, Nest.start h, fun j r ps hj hps => ?_⟩, hb, hlo⟩
  rw [List.getElem?_replicate] at hj
  rw [setsP, List.foldl_nil, List.getElem?_replicate] at hps
  by_cases hjn : j < n
  · rw [if_pos hjn] at hj hps
    cases hj
    cases hps
    exact ⟨rfl, rfl⟩
  · rw [if_neg hjn] at hj
    cases hj
theorem SetI.push {g n : Nat} {L : List (Int × Pl)} {w wr wx w1 : World} {rows : List Rw} {r : Rw} {m : Nat} {a' : Option Addr} {c' : Nat} {p : Pl} (hn : Nest 79 78 2 w.heap.size g n rows wr) (hrel : ∀ (j : Nat) r ps, rows[j]? = some r → (setsP n L)[j]? = some ps → r.n = ps.length ∧ r.vs = plcs ps) (hbw : Below w.heap.size w wr) (hlo : w.heap.size ≤ g) (hr : rows[m]? = some r)
    (hb : Below wr.heap.size wr wx) (hown : w1.ownsRow w.heap.size 78 2 (.slice a' (r.n + 1) c') (r.n + 1) (r.vs ++ [.int .i64 p.1, .int .i64 p.2])) (hg : wx.grownBy w1 (Value.slice r.a r.n r.cap).ownBlock)
    (hlies : (Value.slice a' (r.n + 1) c').ownBlock = (Value.slice r.a r.n r.cap).ownBlock ∨ (Value.slice a' (r.n + 1) c').ownBlock = some wx.heap.size) : SetI g n (L ++ [((m : Int), p)]) w (w1.setCell ⟨g, m, none⟩ (.slice a' (r.n + 1) c')) := by
  have hput := hn.put (r' := ⟨a', c', r.n + 1, r.vs ++ [Value.int .i64 p.1, Value.int .i64 p.2]⟩) (by decide) hr hb hg hown (hlies.imp id (fun h => ⟨_, h, hb.size⟩))
  have hro := hn.row r (List.mem_of_getElem? hr)
  have hmr := (List.getElem?_eq_some_iff.1 hr).1
  refine ⟨⟨_, hput, fun j r2 ps hj hps => ?_⟩, ((hbw.trans (hb.mono hbw.size)).grown hg (Nat.le_trans hbw.size hb.size) (fun k hk => (hro.lt k hk).1)).setCell hlo _, hlo⟩
  rw [setsP_snoc, addAt, Int.toNat_natCast, List.getElem?_set] at hps
  rw [List.getElem?_set] at hj
  by_cases e : m = j
  · subst e
    rw [if_pos rfl, if_pos hmr] at hj
    have hml : m < (setsP n L).length := by rw [setsP_len]; have := hn.len; omega
    rw [if_pos rfl, if_pos hml] at hps
    cases hj
    cases hps
    have hx : (setsP n L)[m]? = some ((setsP n L)[m]'hml) := List.getElem?_eq_getElem _
    obtain ⟨h1, h2⟩ := hrel m r _ hr hx
    have hgd : (setsP n L).getD m [] = (setsP n L)[m]'hml := by rw [List.getD_eq_getElem?_getD, hx]; rfl
    simp only
    rw [hgd, plcs_snoc, h2, List.length_append, h1]
    exact ⟨rfl, rfl⟩
  · rw [if_neg e] at hj hps
    exact hrel j r2 ps hj hps

section
variable {w : World} {ops : Array Oper} {rest : List Oper} {o : Oper} {a : Act} {Q : Exit → Act → World → Prop}
/-- append of one place. -/
theorem app_place (hgd : o.guard = none) (s x : Operand) (ho : o.op = .call { callee := .builtin .append, args := #[s, x], argTypes := #[79, 79] })
    (base : Nat) (v : Value) (n : Nat) (xs : List Value) (hs : a.eval s = v) (hown : w.ownsRow base 78 2 v n xs)
    (ao : Option Addr) (c : Nat) (y z : Int) (hx : a.eval x = .slice ao 1 c) (hrow : RowAt w ao [.int .i64 y, .int .i64 z])
    (hb : n + 1 ≤ 1099511627776) (hbase : base ≤ w.heap.size)
    (h : ∀ a' c' w', w'.ownsRow base 78 2 (.slice a' (n + 1) c') (n + 1) (xs ++ [.int .i64 y, .int .i64 z]) → w.grownBy w' v.ownBlock →
      ((Value.slice a' (n + 1) c').ownBlock = v.ownBlock ∨ (Value.slice a' (n + 1) c').ownBlock = some w.heap.size) → wpList Try.prog ops Q rest (a.put o.dst (.slice a' (n + 1) c')) w') : wpList Try.prog ops Q (o :: rest) a w := by
  obtain ⟨i0, hi, hz0, hz1, hz2⟩ := info_parts info_place
  exact wpList_append_any hgd s x 79 ho base 78 i0 (.agg #[.int .i64 0, .int .i64 0]) 2 16 und_places hi hz0 hz1 hz2 rfl (by decide) v n xs hs hown ao 1 c _ hx (by simp) hrow (by
    rintro rfl
    rcases hrow with h | ⟨_, _, h, _⟩
    · cases h
    · cases h) (by intro u hu; simp at hu; rcases hu with rfl | rfl <;> rfl) (by unfold maxLen; omega) (by omega) hbase h
theorem step_app_place {K : Act → World → Prop} {E : Prop} (hgd : o.guard = none) (s x : Operand) (ho : o.op = .call { callee := .builtin .append, args := #[s, x], argTypes := #[79, 79] })
    (base : Nat) (v : Value) (n : Nat) (xs : List Value) (hs : a.eval s = v) (hown : w.ownsRow base 78 2 v n xs)
    (ao : Option Addr) (c : Nat) (y z : Int) (hx : a.eval x = .slice ao 1 c) (hrow : RowAt w ao [.int .i64 y, .int .i64 z])
    (hb : n + 1 ≤ 1099511627776) (hbase : base ≤ w.heap.size)
    (h : ∀ a' c' w', w'.ownsRow base 78 2 (.slice a' (n + 1) c') (n + 1) (xs ++ [.int .i64 y, .int .i64 z]) → w.grownBy w' v.ownBlock →
      ((Value.slice a' (n + 1) c').ownBlock = v.ownBlock ∨ (Value.slice a' (n + 1) c').ownBlock = some w.heap.size) → K (a.put o.dst (.slice a' (n + 1) c')) w') :
    if Region.wanted o (yielded ops a.tmps) = true then Oper.wp Try.prog o a w K Q else E := by
  obtain ⟨i0, hi, hz0, hz1, hz2⟩ := info_parts info_place
  exact step_append_any hgd s x 79 ho base 78 i0 (.agg #[.int .i64 0, .int .i64 0]) 2 16 und_places hi hz0 hz1 hz2 rfl (by decide) v n xs hs hown ao 1 c _ hx (by simp) hrow (by
    rintro rfl
    rcases hrow with h | ⟨_, _, h, _⟩
    · cases h
    · cases h) (by intro u hu; simp at hu; rcases hu with rfl | rfl <;> rfl) (by unfold maxLen; omega) (by omega) hbase h
end

set_option maxRecDepth 100000 in
set_option maxHeartbeats 4000000 in
theorem placesOf_any (cs : List Value) (c : CodeD) (w : World) (n : Nat) (hR : CodeR w cs c) (hs : szCodeD c ≤ 1048576) (hreg : c.regs = (n : Int)) (hn : n ≤ 300) (hok : SetsOk n c.blocks) :
    Calls Try.prog 66 #[.agg cs.toArray] w fun e w' => ∃ g, e = .returned (.slice (some ⟨g, 0, none⟩) n n) ∧ SetI g n (evBl c.blocks c.blocks.length) w w' := by
  obtain ⟨params, regs, blocks⟩ := c
  obtain ⟨ba, bc, rfl, _, hrd⟩ := hR
  obtain rfl : regs = (n : Int) := hreg
  have hrd : SliceRd 5 BlockR w ba blocks.length blocks := hrd
  have hok : SetsOk n blocks := hok
  have hs : szS szBlockD blocks ≤ 1048576 := hs
  show Calls _ _ _ _ fun e w' => ∃ g, e = .returned (.slice (some ⟨g, 0, none⟩) n n) ∧ SetI g n (evBl blocks blocks.length) w w'
  have hbl : blocks.length ≤ 1048576 := Nat.le_trans (szS_len szBlockD blocks) hs
  have HO := Lib.hid (And.intro hok hs)
  obtain ⟨i0, hi, hz0, hz1, hz2⟩ := info_parts info_places
  have hb0 : Below w.heap.size w (w.alloc (.cells #[.int .i64 params, .int .i64 (n : Int), .slice ba blocks.length bc] 51)) := (Below.refl _ _).alloc (Nat.le_refl _) _
  have hC0 := heap_alloc_new w (.cells #[.int .i64 params, .int .i64 (n : Int), .slice ba blocks.length bc] 51)
  have hc1 : (w.alloc (.cells #[.int .i64 params, .int .i64 (n : Int), .slice ba blocks.length bc] 51)).cell? ⟨w.heap.size, 1, none⟩ = some (.int .i64 (n : Int)) := cell_of_row _ _ 1 _ _ _ hC0
  have hs0 : (w.alloc (.cells #[.int .i64 params, .int .i64 (n : Int), .slice ba blocks.length bc] 51)).heap.size = w.heap.size + 1 := by simp
  have HC := Lib.hid (And.intro hb0 hC0)
  clear hs hok hC0
  go_enter Try.func66, Try.ntmps66
  go_wp2_with (at_make; refine wpList_make_full _ rfl _ _ 80 rfl w.heap.size 79 i0 (.slice none 0 0) 1 und_placess hi hz0 hz1 _ _ _ _ n rfl rfl rfl rfl (by rw [hz2]; omega) (by unfold maxLen; omega) (by simp) ?_; intro w1 hown hg; (rw [Nat.mul_one, show (Value.slice none 0 0).cells = #[Value.slice none 0 0] from rfl, toList_madeCells_one, hs0] at hown); (have hb1 : Below w.heap.size w w1 := hb0.trans ((Below.refl _ _).grown hg hb0.size (by simp))); (have HC1 := Lib.hid (show SetI (w.heap.size + 1) n [] w w1 from SetI.start hown hb1 (by omega))); (have hc2' : w1.cell? ⟨w.heap.size, 2, none⟩ = some (.slice ba blocks.length bc) := cell_of_row _ _ 2 _ _ _ ((hg.block _ (by simp) (by simp)).trans HC.out.2)); (have hsz1 := (hown.lt _ rfl).2); clear hown hg hi hz0 hz1 hz2 hb0 hc1 hs0 HC hb1)
  clear hc2'
  go_loopg [17] blocks.length (fun F i wr => ∃ b : Nat, b + F = blocks.length ∧ i = .int .i64 b ∧ Hid (SetI (w.heap.size + 1) n (evBl blocks b) w wr))
  case atStart => exact ⟨0, by omega, rfl, HC1⟩
  case round =>
    obtain ⟨b, hb, rfl, HK⟩ := hrel
    clear HC1
    by_cases hlt : b < blocks.length
    · obtain ⟨b1, o1, phis, ins, jump, jon, nx, pa, pc, ia, ic, na, nc, rfl, hx, c0, c1, c2, c3, c4, hR⟩ := block_place hrd hlt
      obtain ⟨_, _, _, _, _, _, hcs, hph, hins, _⟩ := hR
      simp only [List.cons.injEq, Value.slice.injEq, and_true, true_and] at hcs
      obtain ⟨⟨rfl, rfl⟩, ⟨rfl, rfl⟩, rfl, rfl⟩ := hcs
      have hzb := szBlock_parts (szS_get (sz := szBlockD) HO.out.2 hx).1
      have hpl : phis.length ≤ 1048576 := Nat.le_trans (szS_len szPhiD phis) hzb.1
      have hil : ins.length ≤ 1048576 := Nat.le_trans (szS_len szInsD ins) hzb.2.1
      have d0 := cell_later HK.out.below c0
      have d1 := cell_later HK.out.below c1
      have d2 := cell_later HK.out.below c2
      have d3 := cell_later HK.out.below c3
      have d4 := cell_later HK.out.below c4
      have HOB := Lib.hid (HO.out.1 _ (List.mem_of_getElem? hx))
      have HXB := Lib.hid hx
      have hba : Below wr.heap.size wr (wr.alloc (.cells #[.slice pa phis.length pc, .slice ia ins.length ic, .int .i64 jump, .int .i64 jon, .slice na nx.length nc] 70)) := (Below.refl _ _).alloc (Nat.le_refl _) _
      have hrow := heap_alloc_new wr (.cells #[.slice pa phis.length pc, .slice ia ins.length ic, .int .i64 jump, .int .i64 jon, .slice na nx.length nc] 70)
      have q0 : (wr.alloc (.cells #[.slice pa phis.length pc, .slice ia ins.length ic, .int .i64 jump, .int .i64 jon, .slice na nx.length nc] 70)).cell? ⟨wr.heap.size, 0, none⟩ = some (.slice pa phis.length pc) := cell_of_row _ _ 0 _ _ _ hrow
      have HB := Lib.hid (And.intro (HK.out.later hba) hrow)
      have hwb : w.heap.size + 1 < wr.heap.size := HK.out.lt
      clear hx c0 c1 c2 c3 c4 hzb HK hba hrow
      go_wp2_with fail
      generalize wr.alloc (.cells #[.slice pa phis.length pc, .slice ia ins.length ic, .int .i64 jump, .int .i64 jon, .slice na nx.length nc] 70) = wa at HB ⊢
      obtain ⟨bx, hbxe⟩ : ∃ bx, bx = wr.heap.size := ⟨_, rfl⟩
      rw [← hbxe] at HB hwb ⊢
      have HNE := Lib.hid (show bx ≠ w.heap.size + 1 by omega)
      clear hbxe d0 d1 d2 d3 d4 q0
      go_loopg [25] phis.length (fun F i wq => ∃ k : Nat, k + F = phis.length ∧ i = .int .i64 k ∧ Hid (SetI (w.heap.size + 1) n (evBl blocks b ++ evPhis b (phis.take k)) w wq ∧ wq.heap[bx]? = some (.cells #[.slice pa phis.length pc, .slice ia ins.length ic, .int .i64 jump, .int .i64 jon, .slice na nx.length nc] 70)))
      case atStart => exact ⟨0, by omega, rfl, Lib.hid ⟨by simpa [evPhis] using HB.out.1, HB.out.2⟩⟩
      case round =>
        obtain ⟨k, hk, rfl, HQ⟩ := hrel
        clear HB
        by_cases hlt2 : k < phis.length
        · obtain ⟨b2, o2, tr, args, aa, ac, rfl, hxp, e0, e1, hRp⟩ := phi_place hph.2 hlt2
          obtain ⟨ht0, ht1⟩ := HOB.out.1 _ (List.mem_of_getElem? hxp)
          have ht0 : 0 ≤ tr := ht0
          have ht1 : tr < (n : Int) := ht1
          obtain ⟨m, rfl⟩ : ∃ m : Nat, tr = (m : Int) := ⟨tr.toNat, by omega⟩
          have f0 := cell_later HQ.out.1.below e0
          have f1 := cell_later HQ.out.1.below e1
          have HX2 := Lib.hid (evPhis_succ (b := b) hxp)
          have hba : Below wr.heap.size wr (wr.alloc (.cells #[.int .i64 (m : Int), .slice aa args.length ac] 107)) := (Below.refl _ _).alloc (Nat.le_refl _) _
          have hwb2 : bx < wr.heap.size := (Array.getElem?_eq_some_iff.1 HQ.out.2).1
          have hrow := heap_alloc_new wr (.cells #[.int .i64 (m : Int), .slice aa args.length ac] 107)
          have HQ1 := Lib.hid (And.intro (HQ.out.1.later hba) (And.intro ((hba.block _ hwb2).trans HQ.out.2) hrow))
          clear hxp e0 e1 HQ hba hRp hrow
          go_upto_region 8 with fail
          generalize wr.alloc (.cells #[.int .i64 (m : Int), .slice aa args.length ac] 107) = wa at HQ1 ⊢
          obtain ⟨bp, hbp⟩ : ∃ bp, bp = wr.heap.size := ⟨_, rfl⟩
          rw [← hbp] at HQ1 ⊢
          clear f0 f1 hbp
          obtain ⟨rows, r, ps, hN, hrel, hr, hps, hrn, hrv, hrl, hgc, hgf, hown⟩ := HQ1.out.1.get (m := m) (by omega)
          have hsm := ev_small HO.out.2 HXB.out (k := k) (i := 0) (Nat.zero_le _)
          have hsm : (evBl blocks b ++ (evPhis b (phis.take k) ++ [])).length ≤ 1048576 := hsm
          rw [List.append_nil] at hsm
          have hp0 : wa.cell? ⟨bp, 0, none⟩ = some (.int .i64 (m : Int)) := cell_of_row _ _ 0 _ _ _ HQ1.out.2.2
          have HOW := Lib.hid (fun q : Nat => ownsRow_below hown (below_drewN (Below.refl _ _) q))
          have HSZ := HQ1.out.1.below.size
          have hbA : Below wa.heap.size wa (wa.alloc (.cells #[.int .i64 (b : Int), .int .i64 (-1)] 78)) := (Below.refl _ _).alloc (Nat.le_refl _) _
          have hgcA := cell_later hbA hgc
          have hp0A := cell_later hbA hp0
          clear hbA
          have HNN := Lib.hid (And.intro hN (And.intro hrel (And.intro hr hown)))
          clear hN hrel hps hrn hrv hown
          go_wp2_with fail
          go_region_law (first | (refine step_app_place rfl (.tmp 36) (.tmp 39) rfl w.heap.size _ r.n r.vs rfl ((HOW.out _).alloc _) _ _ _ _ rfl (rowAt_two _ _ _ _) (by omega) (Nat.le_trans HSZ (Nat.le_of_lt (by show wa.heap.size < (wa.alloc _).heap.size; rw [World.size_alloc]; exact Nat.lt_succ_self _))) ?_; intro a5 c5 w5 hown5 hg5 hlies5; (obtain ⟨hgc5, hgf5⟩ := HNN.out.1.grown (by decide) HNN.out.2.2.1 (show Below wa.heap.size wa (wa.alloc _).drew from ((Below.refl _ _).alloc (Nat.le_refl _) _).drew) hg5); (have hgc5 : w5.cell? ⟨w.heap.size + 1, m, none⟩ = some (.slice r.a r.n r.cap) := hgc5); (have hp05 : w5.cell? ⟨bp, 0, none⟩ = some (.int .i64 (m : Int)) := cell_of_row _ _ 0 _ _ _ (kept_of_grown HNN.out.2.2.2 (show Below wa.heap.size wa (wa.alloc _).drew from ((Below.refl _ _).alloc (Nat.le_refl _) _).drew) hg5 HQ1.out.2.2 (by decide)))))
          all_goals
            have HN := Lib.hid (And.intro (SetI.push (p := ((b : Int), (-1 : Int))) HNN.out.1 HNN.out.2.1 HQ1.out.1.below HQ1.out.1.lo HNN.out.2.2.1 (show Below wa.heap.size wa (wa.alloc _).drew from ((Below.refl _ _).alloc (Nat.le_refl _) _).drew) hown5 hg5 hlies5) ((heap_setCell_other w5 ⟨w.heap.size + 1, m, none⟩ bx (.slice a5 (r.n + 1) c5) (fun e => HNE.out e)).trans (kept_of_grown HNN.out.2.2.2 (show Below wa.heap.size wa (wa.alloc _).drew from ((Below.refl _ _).alloc (Nat.le_refl _) _).drew) hg5 HQ1.out.2.1 (by decide))))
            clear hown5 hg5 hlies5 hgc5 hgf5 hp05 hgcA hp0A hgc hgf hp0 HNN HOW HQ1
            go_wp2
            go_roundg (gk - 1)
            case measure => omega
            case rel => exact ⟨k + 1, by omega, by go_num, Lib.hid ⟨by rw [HX2.out, ← List.append_assoc]; exact HN.out.1, HN.out.2⟩⟩
        · obtain rfl : k = phis.length := by omega
          have HB := Lib.hid (show SetI (w.heap.size + 1) n (evBl blocks b ++ evPhis b phis) w wr ∧ wr.heap[bx]? = some (.cells #[.slice pa phis.length pc, .slice ia ins.length ic, .int .i64 jump, .int .i64 jon, .slice na nx.length nc] 70) from by have h1 := HQ.out; rw [List.take_length] at h1; exact h1)
          have q1 : wr.cell? ⟨bx, 1, none⟩ = some (.slice ia ins.length ic) := cell_of_row _ _ 1 _ _ _ HB.out.2
          clear HQ
          go_wp2_with fail
          clear q1
          go_loopg [46] ins.length (fun F i wq => ∃ j : Nat, j + F = ins.length ∧ i = .int .i64 j ∧ Hid (SetI (w.heap.size + 1) n (evBl blocks b ++ evPhis b phis ++ evTo b ins j) w wq))
          case atStart => exact ⟨0, by omega, rfl, Lib.hid (by simpa [evTo] using HB.out.1)⟩
          case round =>
            obtain ⟨j, hj, rfl, HQ⟩ := hrel
            clear HB
            by_cases hlt3 : j < ins.length
            · obtain ⟨b2, o2, op, tr, args, num, aa, ac, rfl, hxi, e0, e1, e2, e3, hRi⟩ := ins_place hins.2 hlt3
              have hto := HOB.out.2 _ (List.mem_of_getElem? hxi)
              have hto : makesB op = true → 0 ≤ tr ∧ tr < (n : Int) := hto
              have f0 := cell_later HQ.out.below e0
              have f1 := cell_later HQ.out.below e1
              have f2 := cell_later HQ.out.below e2
              have f3 := cell_later HQ.out.below e3
              have hba : Below wr.heap.size wr (wr.alloc (.cells #[.int .i64 op, .int .i64 tr, .slice aa args.length ac, .int .i64 num] 72)) := (Below.refl _ _).alloc (Nat.le_refl _) _
              have hrow := heap_alloc_new wr (.cells #[.int .i64 op, .int .i64 tr, .slice aa args.length ac, .int .i64 num] 72)
              have p0 : (wr.alloc (.cells #[.int .i64 op, .int .i64 tr, .slice aa args.length ac, .int .i64 num] 72)).cell? ⟨wr.heap.size, 0, none⟩ = some (.int .i64 op) := cell_of_row _ _ 0 _ _ _ hrow
              have p1 : (wr.alloc (.cells #[.int .i64 op, .int .i64 tr, .slice aa args.length ac, .int .i64 num] 72)).cell? ⟨wr.heap.size, 1, none⟩ = some (.int .i64 tr) := cell_of_row _ _ 1 _ _ _ hrow
              have p2 : (wr.alloc (.cells #[.int .i64 op, .int .i64 tr, .slice aa args.length ac, .int .i64 num] 72)).cell? ⟨wr.heap.size, 2, none⟩ = some (.slice aa args.length ac) := cell_of_row _ _ 2 _ _ _ hrow
              have p3 : (wr.alloc (.cells #[.int .i64 op, .int .i64 tr, .slice aa args.length ac, .int .i64 num] 72)).cell? ⟨wr.heap.size, 3, none⟩ = some (.int .i64 num) := cell_of_row _ _ 3 _ _ _ hrow
              have HRi := Lib.hid (insR_lasts _ _ _ _ (HQ.out.below.trans (hba.mono HQ.out.below.size)) hRi)
              have HQ1 := Lib.hid (HQ.out.later hba)
              have HX3 := Lib.hid hxi
              clear hxi e0 e1 e2 e3 HQ hba hRi hrow
              go_upto_region 13 with fail
              generalize wr.alloc (.cells #[.int .i64 op, .int .i64 tr, .slice aa args.length ac, .int .i64 num] 72) = wa at HQ1 HRi p0 p1 p2 p3 ⊢
              clear f0 f1 f2 f3
              cases hmk : makesB op with
              | false =>
                have HE := Lib.hid (evTo_no (b := b) HX3.out hmk)
                have HMP := Lib.hid (show madeP ⟨op, tr, args, num⟩ = -1 by simp [madeP, hmk])
                clear hto hmk
                go_wp2_with fail
                refine (implMadeBy_any _ ⟨op, tr, args, num⟩ wa HRi.out).mono ?_
                rw [HMP.out]
                rintro e w2 ⟨rfl, hb2⟩
                have HQ2 := Lib.hid (HQ1.out.later hb2)
                clear hb2 p0 p1 p2 p3
                go_wp2
                go_roundg (gk - 1)
                case measure => omega
                case rel => exact ⟨j + 1, by omega, by go_num, Lib.hid (by rw [HE.out]; exact HQ2.out)⟩
              | true =>
                have HE := Lib.hid (evTo_yes (b := b) HX3.out hmk)
                have HMP := Lib.hid (show madeP ⟨op, tr, args, num⟩ = tr by simp [madeP, hmk])
                obtain ⟨ht0, ht1⟩ := hto hmk
                obtain ⟨m, rfl⟩ : ∃ m : Nat, tr = (m : Int) := ⟨tr.toNat, by omega⟩
                clear hto hmk
                go_wp2_with fail
                refine (implMadeBy_any _ ⟨op, (m : Int), args, num⟩ wa HRi.out).mono ?_
                rw [HMP.out]
                rintro e w2 ⟨rfl, hb2⟩
                have HQ2 := Lib.hid (HQ1.out.later hb2)
                clear hb2 p0 p1 p2 p3 HQ1
                obtain ⟨rows, r, ps, hN, hrel, hr, hps, hrn, hrv, hrl, hgc, hgf, hown⟩ := HQ2.out.get (m := m) (by omega)
                have hsm := ev_small HO.out.2 HXB.out (k := phis.length) (i := j) (by show j ≤ ins.length; omega)
                have hsm : (evBl blocks b ++ (evPhis b (phis.take phis.length) ++ evTo b ins j)).length ≤ 1048576 := hsm
                rw [List.take_length, ← List.append_assoc] at hsm
                have HSZ := HQ2.out.below.size
                have HNN := Lib.hid (And.intro hN (And.intro hrel (And.intro hr hown)))
                have hbA : Below w2.heap.size w2 (w2.alloc (.cells #[.int .i64 (b : Int), .int .i64 (j : Int)] 78)) := (Below.refl _ _).alloc (Nat.le_refl _) _
                have HBA := Lib.hid hbA
                clear hN hrel hps hrn hrv hown hbA
                go_wp2_with (at_builtin; refine app_place rfl (.tmp 60) (.tmp 64) rfl w.heap.size _ r.n r.vs rfl (HNN.out.2.2.2.alloc _) _ _ _ _ rfl (rowAt_two _ _ _ _) (by omega) (Nat.le_trans HSZ HBA.out.size) ?_; intro a5 c5 w5 hown5 hg5 hlies5; (obtain ⟨hgc5, hgf5⟩ := HNN.out.1.grown (by decide) HNN.out.2.2.1 HBA.out hg5); (have hgc5 : w5.cell? ⟨w.heap.size + 1, m, none⟩ = some (.slice r.a r.n r.cap) := hgc5))
                have HN := Lib.hid (SetI.push (p := ((b : Int), (j : Int))) HNN.out.1 HNN.out.2.1 HQ2.out.below HQ2.out.lo HNN.out.2.2.1 HBA.out hown5 hg5 hlies5)
                clear hown5 hg5 hlies5 hgc5 hgf5 hgc hgf HNN HQ2
                go_roundg (gk - 1)
                case measure => omega
                case rel => exact ⟨j + 1, by omega, by go_num, Lib.hid (by rw [HE.out, ← List.append_assoc]; exact HN.out)⟩
            · obtain rfl : j = ins.length := by omega
              go_wp2
              go_roundg (blocks.length - (b + 1))
              case measure => omega
              case rel => exact ⟨b + 1, by omega, by go_num, Lib.hid (by rw [evBl_succ HXB.out, evBlock, ← List.append_assoc]; exact HQ.out)⟩
    · obtain rfl : b = blocks.length := by omega
      go_wp2
      go_ret
      exact ⟨_, rfl, HK.out⟩

end Go.Proofs.Ytkhnhdgbbjppeaa
