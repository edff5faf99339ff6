/-
  The drawn unit: what comes of a unit of which one place is bent.
-/
import Derived.Test.YtajnldkempeheaaDg6

namespace Go.Proofs.Ytajnldkempeheaa
open Go.RowKit
set_option linter.unusedVariables false
set_option linter.unusedSimpArgs false

/-- What is asked of a drawn code. -/
def BentU (c : CodeD) : Prop := (0 ≤ c.params ∧ c.params ≤ 3) ∧ szCodeD c ≤ 400
theorem SmallC.bentU {N : Nat} {c : CodeD} (h : SmallC N c) (hN : N ≤ 52) : BentU c := ⟨h.1, by have := h.sz; omega⟩
/-- A unit that is drawn and may be bent. -/
def BentE (w0 : World) (br : Nat) (ra : Option Addr) (rl rc : Nat) (bs : List Int) (w : World) (ub rb K : Nat) (W : World) : Prop :=
  ∃ us ua uc S, UnSt w0 br ra rl rc bs w ub rb us ua uc S K W ∧ (1 ≤ us.length ∧ us.length ≤ 3) ∧ ∀ c ∈ us, BentU c
/-- The unit that is being bent: its code j, that code's block b. -/
structure BtSt (w0 : World) (br : Nat) (ra : Option Addr) (rl rc : Nat) (bs : List Int) (w : World) (ub rb : Nat) (us : List CodeD) (ua : Option Addr) (uc : Nat) (S : Nat → Prop) (j b : Nat) (x : CodeD) (y : BlockD) (g gb bc : Nat) (K : Nat) (W : World) : Prop where
  un : UnSt w0 br ra rl rc bs w ub rb us ua uc S K W
  row : ∃ pre post, RowMid W 0 37 3 g us.length uc (j * 3) pre [.int .i64 x.params, .int .i64 x.regs, .slice (some ⟨gb, 0, none⟩) x.blocks.length bc] post
  own : S g
  ua : ua = some ⟨g, 0, none⟩
  len : 1 ≤ us.length ∧ us.length ≤ 3
  small : ∀ c ∈ us, SmallC 44 c
  hx : us[j]? = some x
  hy : x.blocks[b]? = some y
section
variable {w0 w W W' w9 : World} {br : Nat} {ra : Option Addr} {rl rc : Nat} {bs : List Int} {ub rb : Nat} {us : List CodeD} {ua : Option Addr} {uc : Nat} {S : Nat → Prop} {K K' j b : Nat} {x : CodeD} {y : BlockD} {g gb bc : Nat}
theorem UnSt.bt (h : UnSt w0 br ra rl rc bs w ub rb us ua uc S K W) (hl : 1 ≤ us.length ∧ us.length ≤ 3) (hs : ∀ c ∈ us, SmallC 44 c) (hx : us[j]? = some x) (hy : x.blocks[b]? = some y) {g : Nat} (hua : ua = some ⟨g, 0, none⟩) {gb bc : Nat} (hc : W.cell? ⟨g, j * 3 + 2, none⟩ = some (.slice (some ⟨gb, 0, none⟩) x.blocks.length bc)) :
    BtSt w0 br ra rl rc bs w ub rb us ua uc S j b x y g gb bc K W := by
  obtain ⟨g', ba, bc', pre, post, F, hua', hm, hbl, hF, hg, -⟩ := h.setC hx
  rw [hua] at hua'
  cases hua'
  have h2 := hm.cell (q := 2) rfl
  rw [hc] at h2
  simp only [Option.some.injEq, Value.slice.injEq, true_and] at h2
  obtain ⟨rfl, rfl⟩ := h2
  exact ⟨h, ⟨pre, post, hm⟩, hg, hua, hl, hs, hx, hy⟩
theorem BtSt.later (h : BtSt w0 br ra rl rc bs w ub rb us ua uc S j b x y g gb bc K W) (hb : Below W.heap.size W W') : BtSt w0 br ra rl rc bs w ub rb us ua uc S j b x y g gb bc K W' := by
  obtain ⟨pre, post, hm⟩ := h.row
  exact ⟨h.un.later hb, ⟨pre, post, hm.turned (turned_of_below hb (S := fun _ => False) (fun k h1 h2 => by omega)) (fun e => e)⟩, h.own, h.ua, h.len, h.small, h.hx, h.hy⟩
theorem BtSt.drew (h : BtSt w0 br ra rl rc bs w ub rb us ua uc S j b x y g gb bc K W) (hg : W.grownBy W' (some br)) (hr : RdAt w0 br ra rl rc bs K' w W') : BtSt w0 br ra rl rc bs w ub rb us ua uc S j b x y g gb bc K' W' := by
  obtain ⟨pre, post, hm⟩ := h.row
  exact ⟨h.un.drew hg hr, ⟨pre, post, hm.turned (turned_of_grown hg (S := fun k => k = br) (fun k hk => (Option.some.inj hk).symm)) (fun e => (h.un.sS g h.own).1 e)⟩, h.own, h.ua, h.len, h.small, h.hx, h.hy⟩
theorem BtSt.more (h : BtSt w0 br ra rl rc bs w ub rb us ua uc S j b x y g gb bc K W) (hK : K ≤ K') : BtSt w0 br ra rl rc bs w ub rb us ua uc S j b x y g gb bc K' W := ⟨h.un.more hK, h.row, h.own, h.ua, h.len, h.small, h.hx, h.hy⟩
theorem BtSt.same (h : BtSt w0 br ra rl rc bs w ub rb us ua uc S j b x y g gb bc K W) : BentE w0 br ra rl rc bs w ub rb K W := ⟨us, ua, uc, S, h.un, h.len, fun c hc => (h.small c hc).bentU (by decide)⟩
/-- The code's cells. -/
theorem BtSt.code (h : BtSt w0 br ra rl rc bs w ub rb us ua uc S j b x y g gb bc K W) : W.cell? ⟨g, j * 3, none⟩ = some (.int .i64 x.params) ∧ W.cell? ⟨g, j * 3 + 1, none⟩ = some (.int .i64 x.regs) ∧ W.cell? ⟨g, j * 3 + 2, none⟩ = some (.slice (some ⟨gb, 0, none⟩) x.blocks.length bc) ∧ W.frozen? ⟨g, j * 3 + 1, none⟩ = false := by
  obtain ⟨pre, post, hm⟩ := h.row
  exact ⟨hm.cell (q := 0) rfl, hm.cell (q := 1) rfl, hm.cell (q := 2) rfl, hm.frozen 1⟩
theorem BtSt.open (h : BtSt w0 br ra rl rc bs w ub rb us ua uc S j b x y g gb bc K W) :
    ∃ pa pc ia ic na nc pre post pre2 post2 S1 S2 S3 F, BlAt us uc S W j b x y g gb bc pa pc ia ic na nc pre post pre2 post2 S1 S2 S3 F ∧
      ∀ (W' : World) (d' : List Value) (y' : BlockD) (F' T : Nat → Prop), Turned T W W' → (∀ k, T k → k < W.heap.size → k = gb ∨ F k) → (∀ k, F' k → (F k ∨ ¬ S k) ∧ w.heap.size ≤ k ∧ k < W'.heap.size ∧ k ≠ ub ∧ k ≠ rb) →
        RowMid W' 0 41 5 gb x.blocks.length bc (b * 5) pre2 d' post2 → d'.length = 5 → BlockK F' W' d' y' → szBlockD y' ≤ 52 → BentE w0 br ra rl rc bs w ub rb K W' := by
  obtain ⟨g', gb', bc', pa, pc, ia, ic, na, nc, pre, post, pre2, post2, S1, S2, S3, F, hua, hB, hcl⟩ := h.un.setB h.hx h.hy
  rw [h.ua] at hua
  cases hua
  have h2 := hB.code.cell (q := 2) rfl
  rw [h.code.2.2.1] at h2
  simp only [Option.some.injEq, Value.slice.injEq, Addr.mk.injEq, true_and, and_true] at h2
  obtain ⟨rfl, rfl⟩ := h2
  refine ⟨pa, pc, ia, ic, na, nc, pre, post, pre2, post2, S1, S2, S3, F, hB, fun W' d' y' F' T ht hT hF hm hd hr hz => ?_⟩
  obtain ⟨S', hU⟩ := hcl W' d' y' F' T ht hT hF hm hd hr
  exact ⟨_, _, _, _, hU, by rw [List.length_set]; exact h.len, fun c hc => (smallC_set h.small h.hx (by decide) hz c hc).bentU (by decide)⟩
theorem BtSt.szY (h : BtSt w0 br ra rl rc bs w ub rb us ua uc S j b x y g gb bc K W) : szBlockD y ≤ 44 := (h.small x (List.mem_of_getElem? h.hx)).2.2.2 y (List.mem_of_getElem? h.hy)
/-- The block's lists. -/
theorem BtSt.lists (h : BtSt w0 br ra rl rc bs w ub rb us ua uc S j b x y g gb bc K W) : ∃ pa pc ia ic na nc, W.cell? ⟨gb, b * 5, none⟩ = some (.slice pa y.phis.length pc) ∧ W.cell? ⟨gb, b * 5 + 1, none⟩ = some (.slice ia y.ins.length ic) ∧ W.cell? ⟨gb, b * 5 + 4, none⟩ = some (.slice na y.nx.length nc) := by
  obtain ⟨pa, pc, ia, ic, na, nc, pre, post, pre2, post2, S1, S2, S3, F, hB, -⟩ := h.open
  exact ⟨pa, pc, ia, ic, na, nc, hB.blk.cell (q := 0) rfl, hB.blk.cell (q := 1) rfl, hB.blk.cell (q := 4) rfl⟩
theorem BtSt.putJ (h : BtSt w0 br ra rl rc bs w ub rb us ua uc S j b x y g gb bc K W) (v : Int) :
    W.cell? ⟨gb, b * 5 + 2, none⟩ = some (.int .i64 y.jump) ∧ W.frozen? ⟨gb, b * 5 + 2, none⟩ = false ∧ BentE w0 br ra rl rc bs w ub rb K (W.setCell ⟨gb, b * 5 + 2, none⟩ (.int .i64 v)) := by
  obtain ⟨pa, pc, ia, ic, na, nc, pre, post, pre2, post2, S1, S2, S3, F, hB, hcl⟩ := h.open
  have hts := turned_store W gb (b * 5 + 2) (.int .i64 v)
  have hn : ∀ q, F q → ¬ q = gb := fun q hq => (hB.sub q hq).2.2
  refine ⟨hB.blk.cell (q := 2) rfl, hB.blk.frozen 2, hcl _ [.slice pa y.phis.length pc, .slice ia y.ins.length ic, .int .i64 v, .int .i64 y.jon, .slice na y.nx.length nc] ⟨y.phis, y.ins, v, y.jon, y.nx⟩ F _ hts (fun k hk _ => .inl hk) (fun k hk => ?_) (hB.blk.put (q := 2) (by simp) _) rfl
    ⟨pa, pc, ia, ic, na, nc, S1, S2, S3, rfl, hB.phis.turned phiK_sets hts (fun q _ h1 h2 => hn q (hB.d1 q h1).1 h2), hB.ins.turned insK_sets hts (fun q _ h1 h2 => hn q (hB.d2 q h1).1 h2), hB.nx.turned hts (fun q _ h1 h2 => hn q (hB.d3 q h1).1 h2), hB.d1, hB.d2, hB.d3⟩ (Nat.le_trans h.szY (by decide))⟩
  rw [World.size_setCell]
  have := h.un.su k (hB.sub k hk).1
  exact ⟨.inl hk, this⟩
theorem BtSt.putO (h : BtSt w0 br ra rl rc bs w ub rb us ua uc S j b x y g gb bc K W) (v : Int) :
    W.cell? ⟨gb, b * 5 + 3, none⟩ = some (.int .i64 y.jon) ∧ W.frozen? ⟨gb, b * 5 + 3, none⟩ = false ∧ BentE w0 br ra rl rc bs w ub rb K (W.setCell ⟨gb, b * 5 + 3, none⟩ (.int .i64 v)) := by
  obtain ⟨pa, pc, ia, ic, na, nc, pre, post, pre2, post2, S1, S2, S3, F, hB, hcl⟩ := h.open
  have hts := turned_store W gb (b * 5 + 3) (.int .i64 v)
  have hn : ∀ q, F q → ¬ q = gb := fun q hq => (hB.sub q hq).2.2
  refine ⟨hB.blk.cell (q := 3) rfl, hB.blk.frozen 3, hcl _ [.slice pa y.phis.length pc, .slice ia y.ins.length ic, .int .i64 y.jump, .int .i64 v, .slice na y.nx.length nc] ⟨y.phis, y.ins, y.jump, v, y.nx⟩ F _ hts (fun k hk _ => .inl hk) (fun k hk => ?_) (hB.blk.put (q := 3) (by simp) _) rfl
    ⟨pa, pc, ia, ic, na, nc, S1, S2, S3, rfl, hB.phis.turned phiK_sets hts (fun q _ h1 h2 => hn q (hB.d1 q h1).1 h2), hB.ins.turned insK_sets hts (fun q _ h1 h2 => hn q (hB.d2 q h1).1 h2), hB.nx.turned hts (fun q _ h1 h2 => hn q (hB.d3 q h1).1 h2), hB.d1, hB.d2, hB.d3⟩ (Nat.le_trans h.szY (by decide))⟩
  rw [World.size_setCell]
  have := h.un.su k (hB.sub k hk).1
  exact ⟨.inl hk, this⟩
/-- Where it leads first. -/
theorem BtSt.putN (h : BtSt w0 br ra rl rc bs w ub rb us ua uc S j b x y g gb bc K W) (hn : 0 < y.nx.length) :
    ∃ gn nc v0, W.cell? ⟨gb, b * 5 + 4, none⟩ = some (.slice (some ⟨gn, 0, none⟩) y.nx.length nc) ∧ W.cell? ⟨gn, 0, none⟩ = some (.int .i64 v0) ∧ W.frozen? ⟨gn, 0, none⟩ = false ∧ ∀ v : Int, BentE w0 br ra rl rc bs w ub rb K (W.setCell ⟨gn, 0, none⟩ (.int .i64 v)) := by
  obtain ⟨pa, pc, ia, ic, na, nc, pre, post, pre2, post2, S1, S2, S3, F, hB, hcl⟩ := h.open
  obtain ⟨gn, rfl⟩ : ∃ gn, na = some ⟨gn, 0, none⟩ := by
    rcases hB.nx.1.2 with ⟨hv, h0⟩ | ⟨g, cap', cur, hv, hg, _⟩
    · simp only [Value.slice.injEq] at hv
      omega
    · simp only [Value.slice.injEq] at hv
      exact ⟨g, hv.1⟩
  obtain ⟨v0, vs, hvs⟩ : ∃ v0 vs, y.nx = v0 :: vs := by
    cases hh : y.nx with
    | nil => rw [hh] at hn; simp at hn
    | cons a l => exact ⟨a, l, rfl⟩
  have hs3 : S3 gn := hB.nx.2.1 gn rfl
  have hgn := hB.d3 gn hs3
  have hgs := hB.sub gn hgn.1
  have hc := hB.nx.1.cellAt 0 (by omega)
  rw [hvs] at hc
  refine ⟨gn, nc, v0, hB.blk.cell (q := 4) rfl, hc, hB.nx.1.frozenAt 0, fun v => ?_⟩
  have hts := turned_store W gn 0 (.int .i64 v)
  have hst := (hB.nx.1.stored 0 (.int .i64 v)).1
  refine hcl _ [.slice pa y.phis.length pc, .slice ia y.ins.length ic, .int .i64 y.jump, .int .i64 y.jon, .slice (some ⟨gn, 0, none⟩) y.nx.length nc] ⟨y.phis, y.ins, y.jump, y.jon, y.nx.set 0 v⟩ F _ hts (fun k hk _ => .inr (by rw [show k = gn from hk]; exact hgn.1)) (fun k hk => ?_) (hB.blk.turned hts (fun e => hgs.2.2 e.symm)) rfl
    ⟨pa, pc, ia, ic, some ⟨gn, 0, none⟩, nc, S1, S2, S3, by simp, hB.phis.turned phiK_sets hts (fun q _ h1 h2 => (hB.d1 q h1).2.2 (h2 ▸ hs3)), hB.ins.turned insK_sets hts (fun q _ h1 h2 => (hB.d2 q h1).2.2 (h2 ▸ hs3)), ⟨?_, fun k hk => hB.nx.2.1 k (by simpa [Value.ownBlock] using hk), by simp⟩, hB.d1, hB.d2, hB.d3⟩ (by have := h.szY; unfold szBlockD at this ⊢; simp only [List.length_set]; omega)
  · rw [World.size_setCell]
    have := h.un.su k (hB.sub k hk).1
    exact ⟨.inl hk, this⟩
  · simp only [List.length_set, List.map_set]
    exact hst
theorem sz_set0 {l : List InsD} {z z' : InsD} (hz : l[0]? = some z) (h : z'.args.length ≤ z.args.length + 1) : szS szInsD (l.set 0 z') ≤ szS szInsD l + 1 := by
  cases l with
  | nil => simp at hz
  | cons a l =>
    simp only [List.getElem?_cons_zero, Option.some.injEq] at hz
    subst hz
    simp only [List.set_cons_zero, szS, sumOf, List.map_cons, List.sum_cons, List.length_cons, szInsD]
    omega
/-- Its first instruction. -/
theorem BtSt.ins (h : BtSt w0 br ra rl rc bs w ub rb us ua uc S j b x y g gb bc K W) (hn : 0 < y.ins.length) :
    ∃ (gi ic : Nat) (z : InsD) (aa : Option Addr) (ac : Nat) (pre3 post3 : List Value) (S4 : Nat → Prop), W.cell? ⟨gb, b * 5 + 1, none⟩ = some (.slice (some ⟨gi, 0, none⟩) y.ins.length ic) ∧ RowMid W 0 83 4 gi y.ins.length ic 0 pre3 [.int .i64 z.op, .int .i64 z.to, .slice aa z.args.length ac, .int .i64 z.num] post3 ∧ z.args.length ≤ 44 ∧
      IntsK S4 W aa z.args.length ac z.args ∧ (∀ k, S4 k → S k ∧ k ≠ gi ∧ k ≠ gb) ∧ (S gi ∧ gi ≠ gb) ∧
      ∀ (W' : World) (d' : List Value) (z' : InsD) (S4' T : Nat → Prop), Turned T W W' → (∀ k, T k → k < W.heap.size → k = gi ∨ S4 k) → (∀ k, S4' k → (S4 k ∨ ¬ S k) ∧ w.heap.size ≤ k ∧ k < W'.heap.size ∧ k ≠ ub ∧ k ≠ rb) →
        RowMid W' 0 83 4 gi y.ins.length ic 0 pre3 d' post3 → d'.length = 4 → InsK S4' W' d' z' → z'.args.length ≤ z.args.length + 1 → BentE w0 br ra rl rc bs w ub rb K W' := by
  obtain ⟨pa, pc, ia, ic, na, nc, pre, post, pre2, post2, S1, S2, S3, F, hB, hcl⟩ := h.open
  obtain ⟨gi, rfl⟩ : ∃ gi, ia = some ⟨gi, 0, none⟩ := by
    rcases hB.ins.case with ⟨-, h0, -⟩ | h
    · omega
    · exact h
  obtain ⟨z, pre3, d, post3, S4, hz, hd, hm, hR, hS4, hgi, hgil, hcl4⟩ := hB.ins.at2 insK_sets hn
  obtain ⟨aa, ac, rfl, hi⟩ := hR
  have hm0 : RowMid W 0 83 4 gi y.ins.length ic 0 pre3 [.int .i64 z.op, .int .i64 z.to, .slice aa z.args.length ac, .int .i64 z.num] post3 := hm
  have hgs := hB.sub gi (hB.d2 gi hgi).1
  have h4s : ∀ k, S4 k → S k ∧ k ≠ gi ∧ k ≠ gb := fun k hk => by
    have h1 := hS4 k hk
    have h2 := hB.sub k (hB.d2 k h1.1).1
    exact ⟨h2.1, h1.2, h2.2.2⟩
  have hza : z.args.length ≤ 44 := by
    have h1 := h.szY
    have h2 : szInsD z ≤ szS szInsD y.ins := szS_mem (List.mem_of_getElem? hz)
    have h3 : szInsD z = z.args.length := rfl
    unfold szBlockD at h1
    omega
  refine ⟨gi, ic, z, aa, ac, pre3, post3, S4, hB.blk.cell (q := 1) rfl, hm0, hza, hi, h4s, ⟨hgs.1, hgs.2.2⟩, fun W' d' z' S4' T ht hT hF hm' hd' hr hz' => ?_⟩
  have hT2 : ∀ k, T k → k < W.heap.size → S2 k := fun k hk h1 => by
    rcases hT k hk h1 with rfl | h2
    · exact hgi
    · exact (hS4 k h2).1
  have hl : ∀ {P : Nat → Prop}, (∀ k, P k → F k) → ∀ q, P q → q < W.heap.size := fun hP q hq => (h.un.su q (hB.sub q (hP q hq)).1).2.1
  have hnew := hcl4 W' d' z' (fun q => S2 q ∨ S4' q) S4' T ht (fun k hk h1 => by rcases hT k hk h1 with h2 | h2; exact .inl h2; exact .inr (.inl h2)) (fun k hk => .inl hk) (fun k hk => ⟨.inr hk, ?_, ?_⟩) hm' hd' hr
  · have hn0 : (y.ins.set 0 z').length = y.ins.length := List.length_set ..
    refine hcl W' [.slice pa y.phis.length pc, .slice (some ⟨gi, 0, none⟩) y.ins.length ic, .int .i64 y.jump, .int .i64 y.jon, .slice na y.nx.length nc] ⟨y.phis, y.ins.set 0 z', y.jump, y.jon, y.nx⟩ (fun q => F q ∨ S4' q) T ht (fun k hk h1 => .inr (hB.d2 k (hT2 k hk h1)).1) (fun k hk => ?_) (hB.blk.turned ht (fun e => (hB.sub gb (hB.d2 gb (hT2 gb e (hB.blk.row.lt gb rfl).2)).1).2.2 rfl)) rfl
      ⟨pa, pc, some ⟨gi, 0, none⟩, ic, na, nc, S1, fun q => S2 q ∨ S4' q, S3, by simp, hB.phis.turned phiK_sets ht (fun q h0 h1 h2 => (hB.d1 q h1).2.1 (hT2 q h2 h0)), by simpa using hnew, hB.nx.turned ht (fun q h0 h1 h2 => (hB.d3 q h1).2.2 (hT2 q h2 h0)), fun k hk => ?_, fun k hk => ?_, fun k hk => ?_⟩ ?_
    · rcases hk with hk | hk
      · have := h.un.su k (hB.sub k hk).1
        exact ⟨.inl hk, this.1, Nat.lt_of_lt_of_le this.2.1 ht.size, this.2.2⟩
      · have := hF k hk
        refine ⟨?_, this.2⟩
        rcases this.1 with h5 | h5
        · exact .inl (hB.d2 k (hS4 k h5).1).1
        · exact .inr h5
    · have h1 := hB.d1 k hk
      refine ⟨.inl h1.1, fun h2 => ?_, h1.2.2⟩
      rcases h2 with h2 | h2
      · exact h1.2.1 h2
      · rcases (hF k h2).1 with h5 | h5
        · exact h1.2.1 (hS4 k h5).1
        · exact h5 (hB.sub k h1.1).1
    · rcases hk with hk | hk
      · have h1 := hB.d2 k hk
        exact ⟨.inl h1.1, h1.2⟩
      · rcases (hF k hk).1 with h5 | h5
        · exact ⟨.inr hk, (hB.d2 k (hS4 k h5).1).2⟩
        · exact ⟨.inr hk, fun h6 => h5 (hB.sub k (hB.d1 k h6).1).1, fun h6 => h5 (hB.sub k (hB.d3 k h6).1).1⟩
    · have h1 := hB.d3 k hk
      refine ⟨.inl h1.1, h1.2.1, fun h2 => ?_⟩
      rcases h2 with h2 | h2
      · exact h1.2.2 h2
      · rcases (hF k h2).1 with h5 | h5
        · exact h1.2.2 (hS4 k h5).1
        · exact h5 (hB.sub k h1.1).1
    · have h1 := h.szY
      have h2 := sz_set0 hz hz'
      unfold szBlockD at h1 ⊢
      simp only
      omega
  · rintro rfl
    rcases (hF _ hk).1 with h5 | h5
    · exact (hS4 _ h5).2 rfl
    · exact h5 hgs.1
  · rcases (hF _ hk).1 with h5 | h5
    · exact .inl h5
    · exact .inr (fun h6 => h5 (hB.sub k (hB.d2 k h6).1).1)
theorem BtSt.putIns (h : BtSt w0 br ra rl rc bs w ub rb us ua uc S j b x y g gb bc K W) (hn : 0 < y.ins.length) :
    ∃ (gi ic : Nat) (v1 v3 : Int), W.cell? ⟨gb, b * 5 + 1, none⟩ = some (.slice (some ⟨gi, 0, none⟩) y.ins.length ic) ∧ (W.cell? ⟨gi, 1, none⟩ = some (.int .i64 v1) ∧ W.frozen? ⟨gi, 1, none⟩ = false ∧ ∀ v : Int, BentE w0 br ra rl rc bs w ub rb K (W.setCell ⟨gi, 1, none⟩ (.int .i64 v))) ∧
      (W.cell? ⟨gi, 3, none⟩ = some (.int .i64 v3) ∧ W.frozen? ⟨gi, 3, none⟩ = false ∧ ∀ v : Int, BentE w0 br ra rl rc bs w ub rb K (W.setCell ⟨gi, 3, none⟩ (.int .i64 v))) := by
  obtain ⟨gi, ic, z, aa, ac, pre3, post3, S4, hc, hm, hza, hi, h4, hgi, hcl⟩ := h.ins hn
  have e1 := hm.cell (q := 1) rfl
  have e3 := hm.cell (q := 3) rfl
  have f1 := hm.frozen 1
  have f3 := hm.frozen 3
  simp only [Nat.zero_add] at e1 e3 f1 f3
  refine ⟨gi, ic, z.to, z.num, hc, ⟨e1, f1, fun v => ?_⟩, ⟨e3, f3, fun v => ?_⟩⟩
  · have hts := turned_store W gi 1 (.int .i64 v)
    have hp := hm.put (q := 1) (by simp) (.int .i64 v)
    simp only [Nat.zero_add] at hp
    exact hcl _ [.int .i64 z.op, .int .i64 v, .slice aa z.args.length ac, .int .i64 z.num] ⟨z.op, v, z.args, z.num⟩ S4 _ hts (fun k hk _ => .inl hk) (fun k hk => by rw [World.size_setCell]; have := h.un.su k (h4 k hk).1; exact ⟨.inl hk, this⟩) hp rfl
      ⟨aa, ac, rfl, hi.turned hts (fun q _ h1 h2 => (h4 q h1).2.1 h2)⟩ (Nat.le_succ _)
  · have hts := turned_store W gi 3 (.int .i64 v)
    have hp := hm.put (q := 3) (by simp) (.int .i64 v)
    simp only [Nat.zero_add] at hp
    exact hcl _ [.int .i64 z.op, .int .i64 z.to, .slice aa z.args.length ac, .int .i64 v] ⟨z.op, z.to, z.args, v⟩ S4 _ hts (fun k hk _ => .inl hk) (fun k hk => by rw [World.size_setCell]; have := h.un.su k (h4 k hk).1; exact ⟨.inl hk, this⟩) hp rfl
      ⟨aa, ac, rfl, hi.turned hts (fun q _ h1 h2 => (h4 q h1).2.1 h2)⟩ (Nat.le_succ _)
theorem BtSt.addArg (h : BtSt w0 br ra rl rc bs w ub rb us ua uc S j b x y g gb bc K W) (hn : 0 < y.ins.length) :
    ∃ (gi ic n : Nat) (xs : List Int) (aa : Option Addr) (ac : Nat), W.cell? ⟨gb, b * 5 + 1, none⟩ = some (.slice (some ⟨gi, 0, none⟩) y.ins.length ic) ∧ W.cell? ⟨gi, 2, none⟩ = some (.slice aa n ac) ∧ n ≤ 44 ∧ W.ownsRow 0 3 1 (.slice aa n ac) n (xs.map (Value.int .i64)) ∧
      ∀ (W' w9 : World) (a' : Option Addr) (c' : Nat) (v : Int), Below W.heap.size W W' → w9.ownsRow 0 3 1 (.slice a' (n + 1) c') (n + 1) (xs.map (Value.int .i64) ++ [v].map (Value.int .i64)) → W'.grownBy w9 (Value.slice aa n ac).ownBlock →
        ((Value.slice a' (n + 1) c').ownBlock = (Value.slice aa n ac).ownBlock ∨ (Value.slice a' (n + 1) c').ownBlock = some W'.heap.size) →
        (w9.cell? ⟨gb, b * 5 + 1, none⟩ = some (.slice (some ⟨gi, 0, none⟩) y.ins.length ic) ∧ w9.cell? ⟨gi, 2, none⟩ = some (.slice aa n ac)) ∧ w9.frozen? ⟨gi, 2, none⟩ = false ∧ BentE w0 br ra rl rc bs w ub rb K (w9.setCell ⟨gi, 2, none⟩ (.slice a' (n + 1) c')) := by
  obtain ⟨gi, ic, z, aa, ac, pre3, post3, S4, hc, hm, hza, hi, h4, hgi, hcl⟩ := h.ins hn
  have e2 := hm.cell (q := 2) rfl
  simp only [Nat.zero_add] at e2
  refine ⟨gi, ic, z.args.length, z.args, aa, ac, hc, e2, hza, hi.1, fun W' w9 a' c' v hb hown hg hl => ?_⟩
  have hbs := hb.size
  have ht9 : Turned (fun q => (Value.slice aa z.args.length ac).ownBlock = some q) W' w9 := turned_of_grown hg (fun k hk => hk)
  have htW : Turned (fun q => (Value.slice aa z.args.length ac).ownBlock = some q) W w9 := (turned_of_below hb (fun k h1 h2 => by omega)).trans ht9
  have hm9 := hm.turned htW (fun e => (h4 _ (hi.2.1 _ e)).2.1 rfl)
  have e9 := hm9.cell (q := 2) rfl
  have f9 := hm9.frozen 2
  have hts := turned_store w9 gi 2 (.slice a' (z.args.length + 1) c')
  have hp := hm9.put (q := 2) (by simp) (.slice a' (z.args.length + 1) c')
  simp only [Nat.zero_add] at e9 f9 hp
  have htt : Turned (fun q => (Value.slice aa z.args.length ac).ownBlock = some q ∨ q = gi) W (w9.setCell ⟨gi, 2, none⟩ (.slice a' (z.args.length + 1) c')) := (htW.mono (fun k hk => .inl hk)).trans (hts.mono (fun k hk => .inr hk))
  have hlt := h.un.lt
  have hown4 : ∀ q, (Value.slice a' (z.args.length + 1) c').ownBlock = some q → S4 q ∨ (W.heap.size ≤ q ∧ q < w9.heap.size) := fun q hq => by
    rcases hl with e | e
    · exact .inl (hi.2.1 q (e ▸ hq))
    · have h1 := (hown.lt q hq).2
      rw [e] at hq
      cases hq
      exact .inr ⟨hbs, h1⟩
  have hgil := (h.un.su gi hgi.1).2.1
  have hcb : w9.cell? ⟨gb, b * 5 + 1, none⟩ = some (.slice (some ⟨gi, 0, none⟩) y.ins.length ic) := by
    obtain ⟨pa, pc, ia, ic', na, nc, pre, post, pre2, post2, S1, S2, S3, F, hB, -⟩ := h.open
    have h1 := hB.blk.cell (q := 1) rfl
    rw [hc] at h1
    have h2 := (hB.blk.turned htW (fun e => (h4 _ (hi.2.1 _ e)).2.2 rfl)).cell (q := 1) rfl
    rw [h2, h1]
  refine ⟨⟨hcb, e9⟩, f9, hcl _ [.int .i64 z.op, .int .i64 z.to, .slice a' (z.args.length + 1) c', .int .i64 z.num] ⟨z.op, z.to, z.args ++ [v], z.num⟩ (fun q => S4 q ∨ (W.heap.size ≤ q ∧ q < w9.heap.size)) _ htt (fun k hk _ => ?_) (fun k hk => ?_) hp rfl
    ⟨a', c', by simp, ⟨?_, fun k hk => hown4 k (by simpa using hk), by simp⟩⟩ (by simp)⟩
  · rcases hk with hk | hk
    · exact .inr (hi.2.1 k hk)
    · exact .inl hk
  · rw [World.size_setCell]
    rcases hk with hk | hk
    · have := h.un.su k (h4 k hk).1
      have h9 := htW.size
      exact ⟨.inl hk, this.1, by omega, this.2.2⟩
    · exact ⟨.inr (fun h5 => by have := (h.un.su k h5).2.1; omega), by omega, by omega, by omega, by omega⟩
  · have := own_turned hown hts (fun k hk => by
      rcases hown4 k hk with h5 | h5
      · exact (h4 k h5).2.1
      · omega)
    simpa using this
theorem BtSt.putR (h : BtSt w0 br ra rl rc bs w ub rb us ua uc S j b x y g gb bc K W) (v : Int) : BentE w0 br ra rl rc bs w ub rb K (W.setCell ⟨g, j * 3 + 1, none⟩ (.int .i64 v)) := by
  obtain ⟨g', ba, bc', pre, post, F, hua, hm, hbl, hF, hg, hcl⟩ := h.un.setC h.hx
  rw [h.ua] at hua
  cases hua
  have hts := turned_store W g (j * 3 + 1) (.int .i64 v)
  have hU := hcl _ x.params v ba bc' x.blocks F _ hts (fun k hk _ => .inl hk) (fun k hk => by rw [World.size_setCell]; have := h.un.su k (hF k hk).1; exact ⟨.inl hk, this⟩) (hm.put (q := 1) (by simp) (.int .i64 v)) (hbl.turned blockK_sets hts (fun q _ h1 h2 => (hF q h1).2 h2))
  refine ⟨_, _, _, _, hU, by rw [List.length_set]; exact h.len, fun c hc => ?_⟩
  rcases List.mem_or_eq_of_mem_set hc with hc | rfl
  · exact (h.small c hc).bentU (by decide)
  · have := (h.small x (List.mem_of_getElem? h.hx)).bentU (N := 44) (by decide)
    exact this
theorem BtSt.addP (h : BtSt w0 br ra rl rc bs w ub rb us ua uc S j b x y g gb bc K W) {lo0 : Nat} (hS : ∀ q, S q → q < lo0) (h0 : ub < lo0 ∧ rb < lo0 ∧ w.heap.size ≤ lo0 ∧ lo0 ≤ W.heap.size) :
    ∃ pa pc cells G S1, W.cell? ⟨gb, b * 5, none⟩ = some (.slice pa y.phis.length pc) ∧ SepRows 2 78 PhiK S1 W pa y.phis.length pc y.phis cells G ∧ y.phis.length ≤ 44 ∧
      ∀ (W' w9 : World) (a' : Option Addr) (c' : Nat) (d : List Value) (ph : PhiD), Below W.heap.size W W' → PhiK (fun k => lo0 ≤ k) W d ph → ph.args.length ≤ 7 →
        w9.ownsRow 0 78 2 (.slice a' (y.phis.length + 1) c') (y.phis.length + 1) (cells.flatten ++ d) → W'.grownBy w9 (Value.slice pa y.phis.length pc).ownBlock →
        ((Value.slice a' (y.phis.length + 1) c').ownBlock = (Value.slice pa y.phis.length pc).ownBlock ∨ (Value.slice a' (y.phis.length + 1) c').ownBlock = some W'.heap.size) →
        w9.cell? ⟨gb, b * 5, none⟩ = some (.slice pa y.phis.length pc) ∧ w9.frozen? ⟨gb, b * 5, none⟩ = false ∧ BentE w0 br ra rl rc bs w ub rb K (w9.setCell ⟨gb, b * 5, none⟩ (.slice a' (y.phis.length + 1) c')) := by
  obtain ⟨g', gb', bc', pa, pc, cells, G, S1, hua, hgl, hgb, e0, e1, hrw, hcl⟩ := h.un.addPhi h.hx h.hy hS h0
  rw [h.ua] at hua
  cases hua
  have h2 := h.code.2.2.1
  rw [e0] at h2
  simp only [Option.some.injEq, Value.slice.injEq, Addr.mk.injEq, true_and, and_true] at h2
  obtain ⟨rfl, rfl⟩ := h2
  have hz := h.szY
  have hpl : y.phis.length ≤ 44 := by unfold szBlockD szS at hz; omega
  refine ⟨pa, pc, cells, G, S1, e1, hrw, hpl, fun W' w9 a' c' d ph hb hph hp7 hown hg hl => ?_⟩
  obtain ⟨-, h5, h6, -, S', hU⟩ := hcl W' w9 a' c' d ph hb hph hown hg hl
  exact ⟨h5.2, h6, _, _, _, _, hU, by rw [List.length_set]; exact h.len, fun c hc => (small_phi h.small h.hx h.hy hp7 c hc).bentU (by decide)⟩
end

end Go.Proofs.Ytajnldkempeheaa
