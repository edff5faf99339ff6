/-
  The drawn unit: a code (under way).
-/
import Derived.Test.YtajnldkempeheaaDg2
import Derived.Test.YtajnldkempeheaaClone

namespace Go.Proofs.Ytajnldkempeheaa
open Go.RowKit
set_option linter.unusedVariables false
set_option linter.unusedSimpArgs false

/-- The code that is being drawn: what lies where. B: the blocks that the call has made of its own, in which it writes one by one. -/
structure CoSt (w0 : World) (br : Nat) (ra : Option Addr) (rl rc : Nat) (bs : List Int) (w : World) (ub rb cb : Nat) (us : List CodeD) (ua : Option Addr) (uc : Nat) (S : Nat → Prop) (K : Nat) (params regs : Int) (blocks : List BlockD) (ba : Option Addr) (bc : Nat) (Sb : Nat → Prop) (W : World) : Prop where
  u : W.heap[ub]? = some (.cells #[.slice ua us.length uc] 25 (0, 0))
  r : W.heap[rb]? = some (.cells #[.int .i64 0, .int .i64 0, .slice none 0 0] 37 (0, 0))
  c : W.heap[cb]? = some (.cells #[.int .i64 params, .int .i64 regs, .slice ba blocks.length bc] 37 (0, 0))
  k : SepK 5 41 BlockK Sb W ba blocks.length bc blocks
  sb : ∀ q, Sb q → w.heap.size ≤ q ∧ q < W.heap.size ∧ q ≠ ub ∧ q ≠ rb ∧ q ≠ cb
  un : SepK 3 37 CodeK S W ua us.length uc us
  su : ∀ q, S q → q ≠ br ∧ q < w.heap.size
  rd : RdAt w0 br ra rl rc bs K w W
  lo : br < w.heap.size ∧ w0.heap.size ≤ w.heap.size ∧ w.heap.size ≤ ub ∧ w.heap.size ≤ rb ∧ w.heap.size ≤ cb ∧ ub ≠ rb ∧ ub ≠ cb ∧ rb ≠ cb
section
variable {w0 w W W' : World} {br : Nat} {ra : Option Addr} {rl rc : Nat} {bs : List Int} {ub rb cb : Nat} {us : List CodeD} {ua : Option Addr} {uc : Nat} {S : Nat → Prop} {K K' : Nat} {params regs : Int} {blocks : List BlockD} {ba : Option Addr} {bc : Nat} {Sb : Nat → Prop}
/-- Something else is written: the reader, or blocks of its own. -/
theorem CoSt.move {D : Nat → Prop} (h : CoSt w0 br ra rl rc bs w ub rb cb us ua uc S K params regs blocks ba bc Sb W) (ht : Turned D W W') (hD : ∀ q, D q → ¬ Sb q ∧ q ≠ ub ∧ q ≠ rb ∧ q ≠ cb ∧ (q = br ∨ w.heap.size ≤ q)) (hr : RdAt w0 br ra rl rc bs K' w W') :
    CoSt w0 br ra rl rc bs w ub rb cb us ua uc S K' params regs blocks ba bc Sb W' := by
  have hlo := h.lo
  exact ⟨(ht.block _ (Array.getElem?_eq_some_iff.1 h.u).1 (fun e => (hD _ e).2.1 rfl)).trans h.u, (ht.block _ (Array.getElem?_eq_some_iff.1 h.r).1 (fun e => (hD _ e).2.2.1 rfl)).trans h.r, (ht.block _ (Array.getElem?_eq_some_iff.1 h.c).1 (fun e => (hD _ e).2.2.2.1 rfl)).trans h.c,
    h.k.turned blockK_sets ht (fun q _ hs hd => (hD q hd).1 hs), fun q hq => ⟨(h.sb q hq).1, Nat.lt_of_lt_of_le (h.sb q hq).2.1 ht.size, (h.sb q hq).2.2⟩, h.un.turned codeK_sets ht (fun q _ hs hd => by have := h.su q hs; rcases (hD q hd).2.2.2.2 with e | e <;> omega), h.su, hr, h.lo⟩
theorem CoSt.later (h : CoSt w0 br ra rl rc bs w ub rb cb us ua uc S K params regs blocks ba bc Sb W) (hb : Below W.heap.size W W') : CoSt w0 br ra rl rc bs w ub rb cb us ua uc S K params regs blocks ba bc Sb W' :=
  h.move (D := fun _ => False) (turned_of_below hb (fun k h1 h2 => by omega)) (fun q hq => hq.elim) (h.rd.later hb)
theorem CoSt.drew (h : CoSt w0 br ra rl rc bs w ub rb cb us ua uc S K params regs blocks ba bc Sb W) (hg : W.grownBy W' (some br)) (hr : RdAt w0 br ra rl rc bs K' w W') : CoSt w0 br ra rl rc bs w ub rb cb us ua uc S K' params regs blocks ba bc Sb W' := by
  have hlo := h.lo
  exact h.move (turned_of_grown hg (S := fun k => k = br) (fun k hk => (Option.some.inj hk).symm)) (fun q hq => by subst hq; exact ⟨fun hs => by have := (h.sb _ hs).1; omega, by omega, by omega, by omega, .inl rfl⟩) hr
theorem CoSt.more (h : CoSt w0 br ra rl rc bs w ub rb cb us ua uc S K params regs blocks ba bc Sb W) (hK : K ≤ K') : CoSt w0 br ra rl rc bs w ub rb cb us ua uc S K' params regs blocks ba bc Sb W := ⟨h.u, h.r, h.c, h.k, h.sb, h.un, h.su, h.rd.more hK, h.lo⟩
end
/-- The block that is being drawn. lo: the blocks made since its drawing began. -/
structure BkSt (lo : Nat) (xb : Nat) (ins : List InsD) (ia : Option Addr) (ic : Nat) (jump jon : Int) (nx : List Int) (na : Option Addr) (nc : Nat) (S2 S3 : Nat → Prop) (W : World) : Prop where
  x : W.heap[xb]? = some (.cells #[.slice none 0 0, .slice ia ins.length ic, .int .i64 jump, .int .i64 jon, .slice na nx.length nc] 41 (0, 0))
  k : SepK 4 83 InsK S2 W ia ins.length ic ins
  n : IntsK S3 W na nx.length nc nx
  s2 : ∀ q, S2 q → lo ≤ q ∧ q < W.heap.size ∧ q ≠ xb
  s3 : ∀ q, S3 q → lo ≤ q ∧ q < W.heap.size ∧ q ≠ xb ∧ ¬ S2 q
  lo : lo ≤ xb
section
variable {lo xb : Nat} {ins : List InsD} {ia : Option Addr} {ic : Nat} {jump jon : Int} {nx : List Int} {na : Option Addr} {nc : Nat} {S2 S3 : Nat → Prop} {W W' : World}
theorem BkSt.move {D : Nat → Prop} (h : BkSt lo xb ins ia ic jump jon nx na nc S2 S3 W) (ht : Turned D W W') (hD : ∀ q, D q → q < lo) : BkSt lo xb ins ia ic jump jon nx na nc S2 S3 W' := by
  have hl := h.lo
  exact ⟨(ht.block _ (Array.getElem?_eq_some_iff.1 h.x).1 (fun e => by have := hD _ e; omega)).trans h.x, h.k.turned insK_sets ht (fun q _ hs hd => by have := hD q hd; have := (h.s2 q hs).1; omega), h.n.turned ht (fun q _ hs hd => by have := hD q hd; have := (h.s3 q hs).1; omega), fun q hq => ⟨(h.s2 q hq).1, Nat.lt_of_lt_of_le (h.s2 q hq).2.1 ht.size, (h.s2 q hq).2.2⟩, fun q hq => ⟨(h.s3 q hq).1, Nat.lt_of_lt_of_le (h.s3 q hq).2.1 ht.size, (h.s3 q hq).2.2⟩, h.lo⟩
theorem BkSt.later (h : BkSt lo xb ins ia ic jump jon nx na nc S2 S3 W) (hb : Below W.heap.size W W') : BkSt lo xb ins ia ic jump jon nx na nc S2 S3 W' :=
  h.move (D := fun _ => False) (turned_of_below hb (fun k h1 h2 => by omega)) (fun q hq => hq.elim)
/-- Its jump, its register. -/
theorem BkSt.put (h : BkSt lo xb ins ia ic jump jon nx na nc S2 S3 W) (v : Int) : BkSt lo xb ins ia ic v jon nx na nc S2 S3 (W.setCell ⟨xb, 2, none⟩ (.int .i64 v)) ∧ BkSt lo xb ins ia ic jump v nx na nc S2 S3 (W.setCell ⟨xb, 3, none⟩ (.int .i64 v)) := by
  have h2 := turned_store W xb 2 (.int .i64 v)
  have h3 := turned_store W xb 3 (.int .i64 v)
  exact ⟨⟨(heap_setCell_same W xb 2 _ _ _ h.x).trans rfl, h.k.turned insK_sets h2 (fun q _ hs hd => (h.s2 q hs).2.2 hd), h.n.turned h2 (fun q _ hs hd => (h.s3 q hs).2.2.1 hd), fun q hq => ⟨(h.s2 q hq).1, Nat.lt_of_lt_of_le (h.s2 q hq).2.1 h2.size, (h.s2 q hq).2.2⟩, fun q hq => ⟨(h.s3 q hq).1, Nat.lt_of_lt_of_le (h.s3 q hq).2.1 h2.size, (h.s3 q hq).2.2⟩, h.lo⟩,
    ⟨(heap_setCell_same W xb 3 _ _ _ h.x).trans rfl, h.k.turned insK_sets h3 (fun q _ hs hd => (h.s2 q hs).2.2 hd), h.n.turned h3 (fun q _ hs hd => (h.s3 q hs).2.2.1 hd), fun q hq => ⟨(h.s2 q hq).1, Nat.lt_of_lt_of_le (h.s2 q hq).2.1 h3.size, (h.s2 q hq).2.2⟩, fun q hq => ⟨(h.s3 q hq).1, Nat.lt_of_lt_of_le (h.s3 q hq).2.1 h3.size, (h.s3 q hq).2.2⟩, h.lo⟩⟩
/-- The block is done: its cells, its memory. -/
theorem BkSt.done (h : BkSt lo xb ins ia ic jump jon nx na nc S2 S3 W) : BlockK (fun q => lo ≤ q ∧ q < W.heap.size ∧ q ≠ xb) W [.slice none 0 0, .slice ia ins.length ic, .int .i64 jump, .int .i64 jon, .slice na nx.length nc] ⟨[], ins, jump, jon, nx⟩ :=
  ⟨none, 0, ia, ic, na, nc, fun _ => False, S2, S3, rfl, SepK.nil, h.k, h.n, fun k hk => hk.elim, fun k hk => ⟨h.s2 k hk, fun h => h, fun h3 => (h.s3 k h3).2.2.2 hk⟩, fun k hk => ⟨⟨(h.s3 k hk).1, (h.s3 k hk).2.1, (h.s3 k hk).2.2.1⟩, fun h => h, (h.s3 k hk).2.2.2⟩⟩
end

/-- Both: the code and the block that is being drawn. -/
structure InSt (w0 : World) (br : Nat) (ra : Option Addr) (rl rc : Nat) (bs : List Int) (w : World) (ub rb cb : Nat) (us : List CodeD) (ua : Option Addr) (uc : Nat) (S : Nat → Prop) (K : Nat) (params regs : Int) (blocks : List BlockD) (ba : Option Addr) (bc : Nat) (Sb : Nat → Prop)
    (lo : Nat) (xb : Nat) (ins : List InsD) (ia : Option Addr) (ic : Nat) (jump jon : Int) (nx : List Int) (na : Option Addr) (nc : Nat) (S2 S3 : Nat → Prop) (W : World) : Prop where
  co : CoSt w0 br ra rl rc bs w ub rb cb us ua uc S K params regs blocks ba bc Sb W
  bk : BkSt lo xb ins ia ic jump jon nx na nc S2 S3 W
  sb : ∀ q, Sb q → q < lo
  lt : ub < lo ∧ rb < lo ∧ cb < lo ∧ w.heap.size ≤ lo ∧ br < lo
  small : ∀ y ∈ ins, y.args.length ≤ 3
section
variable {w0 w W W' W1 w9 : World} {br : Nat} {ra : Option Addr} {rl rc : Nat} {bs : List Int} {ub rb cb : Nat} {us : List CodeD} {ua : Option Addr} {uc : Nat} {S : Nat → Prop} {K K' : Nat} {params regs : Int} {blocks : List BlockD} {ba : Option Addr} {bc : Nat} {Sb : Nat → Prop}
variable {lo xb : Nat} {ins : List InsD} {ia : Option Addr} {ic : Nat} {jump jon : Int} {nx : List Int} {na : Option Addr} {nc : Nat} {S2 S3 : Nat → Prop}
theorem InSt.overR (h : InSt w0 br ra rl rc bs w ub rb cb us ua uc S K params regs blocks ba bc Sb lo xb ins ia ic jump jon nx na nc S2 S3 W) (ht : Turned (fun k => k = br) W W') (hr : RdAt w0 br ra rl rc bs K' w W') :
    InSt w0 br ra rl rc bs w ub rb cb us ua uc S K' params regs blocks ba bc Sb lo xb ins ia ic jump jon nx na nc S2 S3 W' := by
  have hlo := h.co.lo
  have hlt := h.lt
  exact ⟨h.co.move ht (fun q hq => by subst hq; exact ⟨fun hs => by have := (h.co.sb _ hs).1; omega, by omega, by omega, by omega, .inl rfl⟩) hr, h.bk.move ht (fun q hq => by subst hq; omega), h.sb, h.lt, h.small⟩
theorem InSt.later (h : InSt w0 br ra rl rc bs w ub rb cb us ua uc S K params regs blocks ba bc Sb lo xb ins ia ic jump jon nx na nc S2 S3 W) (hb : Below W.heap.size W W') :
    InSt w0 br ra rl rc bs w ub rb cb us ua uc S K params regs blocks ba bc Sb lo xb ins ia ic jump jon nx na nc S2 S3 W' := ⟨h.co.later hb, h.bk.later hb, h.sb, h.lt, h.small⟩
theorem InSt.drew (h : InSt w0 br ra rl rc bs w ub rb cb us ua uc S K params regs blocks ba bc Sb lo xb ins ia ic jump jon nx na nc S2 S3 W) (hg : W.grownBy W' (some br)) (hr : RdAt w0 br ra rl rc bs K' w W') :
    InSt w0 br ra rl rc bs w ub rb cb us ua uc S K' params regs blocks ba bc Sb lo xb ins ia ic jump jon nx na nc S2 S3 W' :=
  h.overR (turned_of_grown hg (S := fun k => k = br) (fun k hk => (Option.some.inj hk).symm)) hr
theorem InSt.more (h : InSt w0 br ra rl rc bs w ub rb cb us ua uc S K params regs blocks ba bc Sb lo xb ins ia ic jump jon nx na nc S2 S3 W) (hK : K ≤ K') :
    InSt w0 br ra rl rc bs w ub rb cb us ua uc S K' params regs blocks ba bc Sb lo xb ins ia ic jump jon nx na nc S2 S3 W := ⟨h.co.more hK, h.bk, h.sb, h.lt, h.small⟩
/-- The reader as it is now. -/
theorem InSt.now (h : InSt w0 br ra rl rc bs w ub rb cb us ua uc S K params regs blocks ba bc Sb lo xb ins ia ic jump jon nx na nc S2 S3 W) : RdAt w0 br ra rl rc bs K W W := ⟨h.co.rd.rd, Turned.refl _ _⟩
/-- Something of the block's own is written. -/
theorem InSt.ofOwn (h : InSt w0 br ra rl rc bs w ub rb cb us ua uc S K params regs blocks ba bc Sb lo xb ins ia ic jump jon nx na nc S2 S3 W) {D : Nat → Prop} (ht : Turned D W W') (hD : ∀ q, D q → lo ≤ q) :
    CoSt w0 br ra rl rc bs w ub rb cb us ua uc S K params regs blocks ba bc Sb W' := by
  have hlo := h.co.lo
  have hlt := h.lt
  refine h.co.move ht (fun q hq => ?_) (h.co.rd.stay ht (fun q hq => ?_) hlo.2.1)
  · have := hD q hq
    exact ⟨fun hs => by have := h.sb q hs; omega, by omega, by omega, by omega, .inr (by omega)⟩
  · have := hD q hq
    omega
theorem InSt.putJ (h : InSt w0 br ra rl rc bs w ub rb cb us ua uc S K params regs blocks ba bc Sb lo xb ins ia ic jump jon nx na nc S2 S3 W) (v : Int) :
    InSt w0 br ra rl rc bs w ub rb cb us ua uc S K params regs blocks ba bc Sb lo xb ins ia ic v jon nx na nc S2 S3 (W.setCell ⟨xb, 2, none⟩ (.int .i64 v)) :=
  ⟨h.ofOwn (turned_store W xb 2 _) (fun q hq => by subst hq; exact h.bk.lo), (h.bk.put v).1, h.sb, h.lt, h.small⟩
theorem InSt.putO (h : InSt w0 br ra rl rc bs w ub rb cb us ua uc S K params regs blocks ba bc Sb lo xb ins ia ic jump jon nx na nc S2 S3 W) (v : Int) :
    InSt w0 br ra rl rc bs w ub rb cb us ua uc S K params regs blocks ba bc Sb lo xb ins ia ic jump v nx na nc S2 S3 (W.setCell ⟨xb, 3, none⟩ (.int .i64 v)) :=
  ⟨h.ofOwn (turned_store W xb 3 _) (fun q hq => by subst hq; exact h.bk.lo), (h.bk.put v).2, h.sb, h.lt, h.small⟩
/-- The rows of its instructions behind a draw. -/
theorem InSt.rows (h : InSt w0 br ra rl rc bs w ub rb cb us ua uc S K params regs blocks ba bc Sb lo xb ins ia ic jump jon nx na nc S2 S3 W) {cells : List (List Value)} {G : Nat → Nat → Prop} (hs : SepRows 4 83 InsK S2 W ia ins.length ic ins cells G) (ht : Turned (fun k => k = br) W W') :
    SepRows 4 83 InsK S2 W' ia ins.length ic ins cells G := by
  have hlt := h.lt
  exact hs.turned insK_sets ht (fun q _ h1 h2 => by have := (h.bk.s2 q h1).1; omega)
theorem InSt.rowsB (h : InSt w0 br ra rl rc bs w ub rb cb us ua uc S K params regs blocks ba bc Sb lo xb ins ia ic jump jon nx na nc S2 S3 W) {cells : List (List Value)} {G : Nat → Nat → Prop} (hs : SepRows 5 41 BlockK Sb W ba blocks.length bc blocks cells G) (hb : Below W.heap.size W W') :
    SepRows 5 41 BlockK Sb W' ba blocks.length bc blocks cells G :=
  hs.turned blockK_sets (turned_of_below hb (S := fun _ => False) (fun k h1 h2 => by omega)) (fun q _ _ h => h)
/-- An instruction was appended. -/
theorem InSt.addIns {lo0 : Nat} (h : InSt w0 br ra rl rc bs w ub rb cb us ua uc S K params regs blocks ba bc Sb lo xb ins ia ic jump jon [] none 0 S2 (fun _ => False) W) {cells : List (List Value)} {G : Nat → Nat → Prop} (hs : SepRows 4 83 InsK S2 W ia ins.length ic ins cells G) {d : List Value} {x : InsD} (hx : InsK (fun k => lo0 ≤ k) W d x) (h3 : x.args.length ≤ 3)
    (h2 : ∀ q, S2 q → q < lo0) (h0 : xb < lo0 ∧ lo ≤ lo0) (hb : Below W.heap.size W W') {a' : Option Addr} {c' : Nat} (hown : w9.ownsRow 0 83 4 (.slice a' (ins.length + 1) c') (ins.length + 1) (cells.flatten ++ d)) (hg : W'.grownBy w9 (Value.slice ia ins.length ic).ownBlock)
    (hl : (Value.slice a' (ins.length + 1) c').ownBlock = (Value.slice ia ins.length ic).ownBlock ∨ (Value.slice a' (ins.length + 1) c').ownBlock = some W'.heap.size) :
    w9.heap[xb]? = some (.cells #[.slice none 0 0, .slice ia ins.length ic, .int .i64 jump, .int .i64 jon, .slice none 0 0] 41 (0, 0)) ∧
    ∃ S2', InSt w0 br ra rl rc bs w ub rb cb us ua uc S K params regs blocks ba bc Sb lo xb (ins ++ [x]) a' c' jump jon [] none 0 S2' (fun _ => False) (w9.setCell ⟨xb, 1, none⟩ (.slice a' (ins.length + 1) c')) := by
  have h1 := h.later hb
  have hlt := h.lt
  have hblo := h.bk.lo
  have hxl := (Array.getElem?_eq_some_iff.1 h.bk.x).1
  have ht9 : Turned (fun q => (Value.slice ia ins.length ic).ownBlock = some q) W' w9 := turned_of_grown hg (fun k hk => hk)
  have hs' := hs.turned insK_sets (turned_of_below hb (S := fun _ => False) (fun k h1 h2 => by omega)) (fun q _ _ h => h)
  have hx9 := (ht9.block _ (Array.getElem?_eq_some_iff.1 h1.bk.x).1 (fun e => (h.bk.s2 _ (hs.row _ e)).2.2 rfl)).trans h1.bk.x
  have hts := turned_store w9 xb 1 (.slice a' (ins.length + 1) c')
  have hxk := insK_sets.here hx
  have hk9 := SepRows.push (S' := fun q => lo ≤ q ∧ q ≠ xb) insK_sets hs' (insK_sets.below hb hxk) hown hg hl
    (fun k hk => ⟨⟨by omega, by omega⟩, by have := hb.size; omega, fun hs2 => by have := h2 k hs2; omega⟩) (fun k hk => by have e1 := h.bk.s2 k hk; have e2 := hb.size; exact ⟨⟨e1.1, e1.2.2⟩, by omega⟩) ⟨by have := hb.size; omega, by have := hb.size; omega⟩
  have hk10 := (hk9.here insK_sets).turned insK_sets hts (fun q _ h1 h2 => h1.1.2 h2)
  have hc1 := h1.ofOwn ht9 (fun q hq => (h.bk.s2 q (hs.row q hq)).1)
  have hc2 : CoSt w0 br ra rl rc bs w ub rb cb us ua uc S K params regs blocks ba bc Sb (w9.setCell ⟨xb, 1, none⟩ (.slice a' (ins.length + 1) c')) := by
    have hlo := h.co.lo
    refine hc1.move hts (fun q hq => ?_) (hc1.rd.stay hts (fun q hq => ?_) hlo.2.1)
    · subst hq
      exact ⟨fun hs => by have := h.sb _ hs; omega, by omega, by omega, by omega, .inr (by omega)⟩
    · subst hq; omega
  refine ⟨hx9, _, hc2, ⟨?_, by rw [List.length_append, List.length_singleton]; exact hk10, ?_, fun q hq => ?_, fun q hq => hq.elim, h.bk.lo⟩, h.sb, h.lt, fun y hy => ?_⟩
  · rw [List.length_append, List.length_singleton]
    exact (heap_setCell_same w9 xb 1 _ _ _ hx9).trans rfl
  · exact ⟨World.ownsRow_nil _ _ _ _, by simp [Value.ownBlock], rfl⟩
  · rw [World.size_setCell]
    exact ⟨hq.1.1, hq.2, hq.1.2⟩
  · rcases List.mem_append.1 hy with hy | hy
    · exact h.small y hy
    · rw [List.mem_singleton.1 hy]; exact h3
/-- Where it leads. -/
theorem InSt.nexts (h : InSt w0 br ra rl rc bs w ub rb cb us ua uc S K params regs blocks ba bc Sb lo xb ins ia ic jump jon [] none 0 S2 (fun _ => False) W) (hb : Below W.heap.size W W') {nb : Nat} (nx : List Int) (hown : W'.ownsRow 0 3 1 (.slice (some ⟨nb, 0, none⟩) nx.length nc) nx.length (nx.map (Value.int .i64))) (hn : W.heap.size ≤ nb ∧ nb < W'.heap.size) :
    InSt w0 br ra rl rc bs w ub rb cb us ua uc S K params regs blocks ba bc Sb lo xb ins ia ic jump jon nx (some ⟨nb, 0, none⟩) nc S2 (fun q => q = nb) (W'.setCell ⟨xb, 4, none⟩ (.slice (some ⟨nb, 0, none⟩) nx.length nc)) := by
  have h1 := h.later hb
  have hblo := h.bk.lo
  have hxl := (Array.getElem?_eq_some_iff.1 h.bk.x).1
  have hts := turned_store W' xb 4 (.slice (some ⟨nb, 0, none⟩) nx.length nc)
  refine ⟨h1.ofOwn hts (fun q hq => by omega), ⟨(heap_setCell_same W' xb 4 _ _ _ h1.bk.x).trans rfl, h1.bk.k.turned insK_sets hts (fun q _ hs hd => (h.bk.s2 q hs).2.2 hd), ⟨own_turned hown hts (fun k hk => by simp [Value.ownBlock] at hk; omega), fun k hk => by simp [Value.ownBlock] at hk; omega, rfl⟩, fun q hq => ?_, fun q hq => ?_, h.bk.lo⟩, h.sb, h.lt, h.small⟩
  · have := h1.bk.s2 q hq
    rw [World.size_setCell]
    exact this
  · subst hq
    rw [World.size_setCell]
    exact ⟨by omega, by omega, by omega, fun hs => by have := (h.bk.s2 _ hs).2.1; omega⟩
/-- The block was appended. -/
theorem InSt.push (h : InSt w0 br ra rl rc bs w ub rb cb us ua uc S K params regs blocks ba bc Sb lo xb ins ia ic jump jon nx na nc S2 S3 W) {cells : List (List Value)} {G : Nat → Nat → Prop} (hs : SepRows 5 41 BlockK Sb W ba blocks.length bc blocks cells G)
    (hb : Below W.heap.size W W') {a' : Option Addr} {c' : Nat} (hown : w9.ownsRow 0 41 5 (.slice a' (blocks.length + 1) c') (blocks.length + 1) (cells.flatten ++ [.slice none 0 0, .slice ia ins.length ic, .int .i64 jump, .int .i64 jon, .slice na nx.length nc])) (hg : W'.grownBy w9 (Value.slice ba blocks.length bc).ownBlock)
    (hl : (Value.slice a' (blocks.length + 1) c').ownBlock = (Value.slice ba blocks.length bc).ownBlock ∨ (Value.slice a' (blocks.length + 1) c').ownBlock = some W'.heap.size) :
    w9.heap[cb]? = some (.cells #[.int .i64 params, .int .i64 regs, .slice ba blocks.length bc] 37 (0, 0)) ∧
    ∃ Sb', CoSt w0 br ra rl rc bs w ub rb cb us ua uc S K params regs (blocks ++ [⟨[], ins, jump, jon, nx⟩]) a' c' Sb' (w9.setCell ⟨cb, 2, none⟩ (.slice a' (blocks.length + 1) c')) := by
  have h1 := h.later hb
  have hlt := h.lt
  have hblo := h.bk.lo
  have hlo := h.co.lo
  have hbs := hb.size
  have ht9 : Turned (fun q => (Value.slice ba blocks.length bc).ownBlock = some q) W' w9 := turned_of_grown hg (fun k hk => hk)
  have hs' := h.rowsB hs hb
  have hts := turned_store w9 cb 2 (.slice a' (blocks.length + 1) c')
  have hk9 := SepRows.push (S' := fun q => w.heap.size ≤ q ∧ q ≠ ub ∧ q ≠ rb ∧ q ≠ cb) blockK_sets hs' (blockK_sets.below hb h.bk.done) hown hg hl
    (fun k hk => ⟨⟨by omega, by omega, by omega, by omega⟩, by omega, fun hs2 => by have := h.sb k hs2; omega⟩) (fun k hk => by have := h.co.sb k hk; exact ⟨⟨this.1, this.2.2⟩, by omega⟩)
    (by have a1 := (Array.getElem?_eq_some_iff.1 h1.co.u).1; have a2 := (Array.getElem?_eq_some_iff.1 h1.co.r).1; have a3 := (Array.getElem?_eq_some_iff.1 h1.co.c).1; exact ⟨by omega, by omega, by omega, by omega⟩)
  have hk10 := (hk9.here blockK_sets).turned blockK_sets hts (fun q _ h1 h2 => h1.1.2.2.2 h2)
  have hsb : ∀ q, (Value.slice ba blocks.length bc).ownBlock = some q → w.heap.size ≤ q ∧ q ≠ ub ∧ q ≠ rb ∧ q ≠ cb := fun q hq => by have := h.co.sb q (hs.row q hq); exact ⟨this.1, this.2.2⟩
  have hc9 := (ht9.block _ (Array.getElem?_eq_some_iff.1 h1.co.c).1 (fun e => (hsb _ e).2.2.2 rfl)).trans h1.co.c
  have hu9 := (ht9.block _ (Array.getElem?_eq_some_iff.1 h1.co.u).1 (fun e => (hsb _ e).2.1 rfl)).trans h1.co.u
  have hr9 := (ht9.block _ (Array.getElem?_eq_some_iff.1 h1.co.r).1 (fun e => (hsb _ e).2.2.1 rfl)).trans h1.co.r
  have htt : Turned (fun q => (Value.slice ba blocks.length bc).ownBlock = some q ∨ q = cb) W' (w9.setCell ⟨cb, 2, none⟩ (.slice a' (blocks.length + 1) c')) := (ht9.mono (fun k hk => .inl hk)).trans (hts.mono (fun k hk => .inr hk))
  have htn : ∀ q, ((Value.slice ba blocks.length bc).ownBlock = some q ∨ q = cb) → q ≠ br ∧ w.heap.size ≤ q := fun q hq => by
    rcases hq with hq | rfl
    · have := hsb q hq; omega
    · omega
  refine ⟨hc9, _, (hts.block _ (Array.getElem?_eq_some_iff.1 hu9).1 (by omega)).trans hu9, (hts.block _ (Array.getElem?_eq_some_iff.1 hr9).1 (by omega)).trans hr9, ?_, by rw [List.length_append, List.length_singleton]; exact hk10, fun q hq => ?_, h1.co.un.turned codeK_sets htt (fun q _ h1 h2 => ?_), h.co.su, h1.co.rd.stay htt htn hlo.2.1, h.co.lo⟩
  · rw [List.length_append, List.length_singleton]
    exact (heap_setCell_same w9 cb 2 _ _ _ hc9).trans rfl
  · rw [World.size_setCell]
    exact ⟨hq.1.1, hq.2, hq.1.2⟩
  · have := h.co.su q h1
    have := htn q h2
    omega
/-- A new block is begun. -/
theorem CoSt.begin (h : CoSt w0 br ra rl rc bs w ub rb cb us ua uc S K params regs blocks ba bc Sb W) :
    InSt w0 br ra rl rc bs w ub rb cb us ua uc S K params regs blocks ba bc Sb W.heap.size W.heap.size [] none 0 0 0 [] none 0 (fun _ => False) (fun _ => False) (W.alloc (.cells #[.slice none 0 0, .slice none 0 0, .int .i64 0, .int .i64 0, .slice none 0 0] 41)) := by
  have a1 := (Array.getElem?_eq_some_iff.1 h.u).1
  have a2 := (Array.getElem?_eq_some_iff.1 h.r).1
  have a3 := (Array.getElem?_eq_some_iff.1 h.c).1
  have hlo := h.lo
  exact ⟨h.later ((Below.refl _ _).alloc (Nat.le_refl _) _), ⟨heap_alloc_new _ _, SepK.nil, ⟨World.ownsRow_nil _ _ _ _, by simp [Value.ownBlock], rfl⟩, fun q hq => hq.elim, fun q hq => hq.elim, Nat.le_refl _⟩, fun q hq => (h.sb q hq).2.1, ⟨a1, a2, a3, by omega, by omega⟩, by simp⟩
end

end Go.Proofs.Ytajnldkempeheaa
