/-
  The reference draws bent expressions (l2Bent). (printed by mkdr4.py)
-/
import Derived.Test.YtccdmgncjlpebaaDoorDr3

namespace Go.Proofs.YtccdmgncjlpebaaDoor
open Go.RowKit
set_option linter.unusedVariables false

/-- What is known at the end: the expression lies in its block. -/
structure FSt (w0 w : World) (br : Nat) (a : Option Addr) (len cap : Nat) (bs : List Int) (eb d : Nat) (cs : List Value) (x : ExprD) (p : Nat) (wr : World) : Prop where
  res : ResAt w0 w br a len cap bs p wr
  erow : wr.heap[eb]? = some (.cells cs.toArray 54 (0, 0))
  ex : ExprP d (fun b => w.heap.size < b) wr cs x
  long : anyE longP d x = false
  top : TopG d (w.heap.size + 1) wr.heap.size wr cs x
theorem exprP_head {d : Nat} {S : Nat → Prop} {w : World} {a : Option Addr} {c : Nat} {x : ExprD} (h : ExprP d S w [.int .i64 x.op, .int .i64 x.n, .string x.name, .slice a x.kids.length c] x) {op n : Int} {s : ByteArray} (hop : -9223372036854775808 ≤ op ∧ op ≤ 9223372036854775807) :
    ExprP d S w [.int .i64 op, .int .i64 n, .string s, .slice a x.kids.length c] (.mk op n s x.kids) := by
  cases d with
  | zero => exact h.elim
  | succ d =>
    obtain ⟨a', c', h1, h2, h3⟩ := h
    simp only [List.cons.injEq, Value.slice.injEq, and_true, true_and] at h1
    obtain ⟨rfl, rfl⟩ := h1
    exact ⟨a, c, rfl, ⟨h2.1, hop⟩, h3⟩
theorem exprP_op {d : Nat} {S : Nat → Prop} {w : World} {cs : List Value} {x : ExprD} (h : ExprP d S w cs x) : -9223372036854775808 ≤ x.op ∧ x.op ≤ 9223372036854775807 := by
  cases d with
  | zero => exact h.elim
  | succ d => obtain ⟨_, _, _, h2, _⟩ := h; exact h2.2
theorem topG_head {d lo hi : Nat} {w : World} {a : Option Addr} {c : Nat} {x : ExprD} (h : TopG d lo hi w [.int .i64 x.op, .int .i64 x.n, .string x.name, .slice a x.kids.length c] x) {op n : Int} {s : ByteArray} :
    TopG d lo hi w [.int .i64 op, .int .i64 n, .string s, .slice a x.kids.length c] (.mk op n s x.kids) := by
  obtain ⟨a', c', h1, h2, h3⟩ := h
  simp only [List.cons.injEq, Value.slice.injEq, and_true, true_and] at h1
  obtain ⟨rfl, rfl⟩ := h1
  exact ⟨a, c, rfl, h2, h3⟩
theorem long_head {d : Nat} {x : ExprD} {op n : Int} {s : ByteArray} (hs : s.size ≤ maxLen) (h : anyE longP d x = false) : anyE longP d (.mk op n s x.kids) = false := by
  cases d with
  | zero => rfl
  | succ d =>
    obtain ⟨h1, h2⟩ := any_partsE h
    show (decide (maxLen < s.size) || x.kids.any (anyE longP d)) = false
    rw [decide_eq_false (by omega), Bool.false_or, List.any_eq_false]
    intro k hk
    rw [h2 k hk]; simp
theorem long_name {d : Nat} {S : Nat → Prop} {w : World} {cs : List Value} {x : ExprD} (hx : ExprP d S w cs x) (h : anyE longP d x = false) : x.name.size ≤ maxLen := by
  cases d with
  | zero => exact hx.elim
  | succ d =>
    have h1 : decide (maxLen < x.name.size) = false := (any_partsE h).1
    simpa using h1
section
variable {w0 w wr w' : World} {br : Nat} {a : Option Addr} {len cap : Nat} {bs : List Int} {eb d : Nat} {x : ExprD} {p q : Nat} {xa : Option Addr} {xc : Nat}
theorem ResAt.setE (h : ResAt w0 w br a len cap bs p wr) (hlt : w.heap.size < eb) (i : Nat) (v : Value) : ResAt w0 w br a len cap bs p (wr.setCell ⟨eb, i, none⟩ v) := by
  have hb := h.lt
  have hbase := h.rd.base
  refine ⟨⟨h.rd.bytes, h.rd.below.setCell (show w0.heap.size ≤ eb by omega) _, h.rd.base, (heap_setCell_other _ _ _ _ (by show br ≠ eb; omega)).trans h.rd.blk⟩, ?_, h.lt, (heap_setCell_other _ _ _ _ (by show w.heap.size ≠ eb; omega)).trans h.row⟩
  exact Turned.trans (S := fun k => k = br ∨ w.heap.size ≤ k) h.turned ((turned_store wr eb i v).mono (fun k hk => .inr (by omega)))
theorem ESt.head (h : ESt w0 w br a len cap bs eb d [.int .i64 x.op, .int .i64 x.n, .string x.name, .slice xa x.kids.length xc] x p wr) (hL : anyE longP d x = false) {op n : Int} {s : ByteArray} (hop : -9223372036854775808 ≤ op ∧ op ≤ 9223372036854775807) (hs : s.size ≤ maxLen) (i : Nat) (v : Value)
    (he : (#[.int .i64 x.op, .int .i64 x.n, .string x.name, .slice xa x.kids.length xc] : Array Value).setIfInBounds i v = [.int .i64 op, .int .i64 n, .string s, .slice xa x.kids.length xc].toArray) :
    FSt w0 w br a len cap bs eb d [.int .i64 op, .int .i64 n, .string s, .slice xa x.kids.length xc] (.mk op n s x.kids) p (wr.setCell ⟨eb, i, none⟩ v) := by
  have hsz : (wr.setCell ⟨eb, i, none⟩ v).heap.size = wr.heap.size := World.size_setCell _ _ _
  refine ⟨h.res.setE h.lt i v, ?_, ?_, long_head hs hL, ?_⟩
  · rw [heap_setCell_same wr eb i _ _ _ h.erow, ← he]
  · exact exprP_turned (turned_store wr eb i v) (fun k _ h1 h2 => by obtain ⟨g1, g2⟩ := h1; omega) (exprP_head h.ex hop) |> exprP_mono (fun k _ h1 => h1.1)
  · rw [hsz]
    exact ((topG_head h.top).turned (turned_store wr eb i v) (fun k _ h1 h2 h3 => by omega)).wide (Nat.le_refl _) (Nat.le_refl _) (Nat.le_of_lt h.size)
theorem ESt.fst {cs : List Value} (h : ESt w0 w br a len cap bs eb d cs x p wr) (hL : anyE longP d x = false) : FSt w0 w br a len cap bs eb d cs x p wr :=
  ⟨h.res, h.erow, exprP_mono (fun k _ h1 => h1.1) h.ex, hL, h.top.wide (Nat.le_refl _) (Nat.le_refl _) (Nat.le_of_lt h.size)⟩
theorem ESt.drewN {cs : List Value} (n : Nat) (h : ESt w0 w br a len cap bs eb d cs x p wr) : ESt w0 w br a len cap bs eb d cs x p (wr.drewN n) := h.later (below_drewN (Below.refl _ _) n)
theorem ESt.drew {cs : List Value} (h : ESt w0 w br a len cap bs eb d cs x p wr) : ESt w0 w br a len cap bs eb d cs x p wr.drew := h.drewN 1
/-- Another expression is laid in the block. -/
theorem ESt.put {cs cs' : List Value} {y : ExprD} (h : ESt w0 w br a len cap bs eb d cs x p wr) (hl : cs.length = 4) (hx : ExprP d (fun b => eb < b) wr cs' y) (hL : anyE longP d y = false) (hT : TopG d (eb + 1) wr.heap.size wr cs' y) : FSt w0 w br a len cap bs eb d cs' y p (wr.setCells eb 0 cs') := by
  have ht := turned_setCells (g := eb) cs' wr 0
  have hsz := heap_setCells_size (g := eb) cs' wr 0
  have hb := h.res.lt
  have hlt := h.lt
  have hbase := h.res.rd.base
  have hl' := exprP_len hx
  refine ⟨⟨⟨h.res.rd.bytes, ?_, h.res.rd.base, ?_⟩, ?_, h.res.lt, ?_⟩, ?_, ?_, hL, ?_⟩
  · exact h.res.rd.below.trans (ht.below (B := w0.heap.size) h.res.rd.below.size (fun k hk => by omega))
  · rw [heap_setCells_other (by omega)]; exact h.res.rd.blk
  · exact Turned.trans (S := fun k => k = br ∨ w.heap.size ≤ k) h.res.turned (ht.mono (fun k hk => .inr (by omega)))
  · rw [heap_setCells_other (by omega)]; exact h.res.row
  · have := heap_setCells_mid (A := []) (B := cs) (C := []) (vs := cs') (o := 0) rfl (by omega) (by simpa using h.erow)
    simpa using this
  · exact exprP_mono (fun k _ h1 => by omega) (exprP_turned ht (fun k _ h1 h2 => by omega) hx)
  · rw [hsz]
    exact (hT.turned ht (fun k _ h1 _ h3 => by omega)).wide (Nat.le_refl _) (by omega) (Nat.le_refl _)
/-- A part was appended. -/
theorem ESt.push {W w9 : World} {cl : List Value} {y : ExprD} {a' : Option Addr} {c' : Nat} {cells : List (List Value)} (h0 : ESt w0 w br a len cap bs eb (d + 1) [.int .i64 x.op, .int .i64 x.n, .string x.name, .slice xa x.kids.length xc] x p wr) (hrows : RowsG d (fun b => w.heap.size + 1 ≤ b ∧ b ≠ eb) (w.heap.size + 1) wr xa x.kids.length xc x.kids cells) (hne : ∀ k, (Value.slice xa x.kids.length xc).ownBlock = some k → k < eb)
    (hy : ExprP d (fun b => eb < b) wr cl y) (hop : -9223372036854775808 ≤ x.op ∧ x.op ≤ 9223372036854775807) (hL : anyE longP (d + 1) x = false) (hl : anyE longP d y = false) (hlen : x.kids.length = x.kids.length) (hm : x.kids.length ≤ d * 10 + 10) (hm2 : d * 10 + 11 ≤ maxLen)
    (hown : w9.ownsRow (w.heap.size + 1) 54 4 (.slice a' (x.kids.length + 1) c') (x.kids.length + 1) (cells.flatten ++ cl)) (hg : W.grownBy w9 (Value.slice xa x.kids.length xc).ownBlock)
    (hlie : (Value.slice a' (x.kids.length + 1) c').ownBlock = (Value.slice xa x.kids.length xc).ownBlock ∨ (Value.slice a' (x.kids.length + 1) c').ownBlock = some W.heap.size) (hb : Below wr.heap.size wr W) :
    FSt w0 w br a len cap bs eb (d + 1) [.int .i64 x.op, .int .i64 x.n, .string x.name, .slice a' (x.kids.length + 1) c'] (.mk x.op x.n x.name (x.kids ++ [y])) p (w9.setCell ⟨eb, 3, none⟩ (.slice a' (x.kids.length + 1) c')) := by
  have h := h0.later hb
  have hbr := h.res.lt
  have hlt := h.lt
  have hes := h.size
  have hes0 := h0.size
  have hrow : ∀ i, (Value.slice xa x.kids.length xc).ownBlock = some i → w.heap.size < i ∧ i ≠ eb := fun i hi => by
    have := hrows.1.lt i hi
    have := hne i hi
    omega
  have hrow' : ∀ i, (Value.slice a' (x.kids.length + 1) c').ownBlock = some i → w.heap.size < i ∧ i ≠ eb := fun i hi => by
    rcases hlie with h1 | h1
    · exact hrow i (h1 ▸ hi)
    · rw [h1] at hi
      have := Option.some.inj hi
      omega
  have ht := turned_of_grown hg (S := fun k' => (Value.slice xa x.kids.length xc).ownBlock = some k') (fun k hk => hk)
  have hput := turned_store w9 eb 3 (.slice a' (x.kids.length + 1) c')
  have hbl : ∀ b, b < W.heap.size → (b ≤ w.heap.size ∨ b = eb) → w9.heap[b]? = W.heap[b]? := fun b h1 h2 => ht.block b h1 (fun e => by have := hrow b e; omega)
  have hbl2 : ∀ b, b < W.heap.size → b ≤ w.heap.size → (w9.setCell ⟨eb, 3, none⟩ (.slice a' (x.kids.length + 1) c')).heap[b]? = W.heap[b]? := fun b h1 h2 => (heap_setCell_other w9 ⟨eb, 3, none⟩ b _ (by show b ≠ eb; omega)).trans (hbl b h1 (.inl h2))
  have hbase : w0.heap.size ≤ br := h.res.rd.base
  have hlist := ((hrows.below hb).push rfl (exprP_mono (fun k hk h1 => ⟨⟨by omega, by omega⟩, fun e => by have := hne k e; omega⟩) (exprP_below hb hy)) hown hg hlie).turned hput (fun i hi h3 => by have := hrow' i hi; omega) (fun i h1 h2 h3 => by omega)
  have hl2 : (x.kids ++ [y]).length = x.kids.length + 1 := by simp
  have hlp := hlist.list
  have hlist2 : ListG d (fun b => w.heap.size + 1 ≤ b ∧ b ≠ eb) (w.heap.size + 1) (w9.setCell ⟨eb, 3, none⟩ (.slice a' (x.kids.length + 1) c')) a' (x.kids ++ [y]).length c' (x.kids ++ [y]) := by rw [hl2]; exact hlist
  have htop := TopG.of (op := x.op) (n := x.n) (s := x.name) (hlist2.wide (Nat.le_succ d) (fun _ _ h => h)) (fun k _ h1 => h1.1) (by rw [hl2]; omega)
  rw [hl2] at htop
  refine ⟨⟨⟨h.res.rd.bytes, ?_, h.res.rd.base, ?_⟩, ?_, h.res.lt, ?_⟩, ?_, ?_, ?_, htop⟩
  · exact (h.res.rd.below.trans (ht.below (B := w0.heap.size) h.res.rd.below.size (fun i hi => by have := hrow i hi; omega))).setCell (show w0.heap.size ≤ eb by omega) _
  · exact (hbl2 br h.res.rd.lt (by omega)).trans h.res.rd.blk
  · refine Turned.trans (S := fun k => k = br ∨ w.heap.size ≤ k) h.res.turned (Turned.trans (b := w9) (ht.mono (fun i hi => .inr ?_)) (hput.mono (fun i hi => .inr ?_)))
    · have := hrow i hi; omega
    · omega
  · exact (hbl2 _ h.res.size (Nat.le_refl _)).trans h.res.row
  · have h1 := (hbl eb hes (.inr rfl)).trans h.erow
    rw [heap_setCell_same w9 eb 3 _ _ _ h1]
    rfl
  · refine ⟨a', c', by show _ = [_, _, _, Value.slice a' (x.kids ++ [y]).length c']; rw [hl2]; rfl, ⟨by show (x.kids ++ [y]).length ≤ maxLen; rw [hl2]; exact Nat.le_trans (by omega : x.kids.length + 1 ≤ d * 10 + 11) hm2, hop⟩, hlp.mono (fun _ _ _ h => exprP_mono (fun i _ h3 => h3.elim (fun h => h.1) id) h) (fun i _ h3 => h3.elim (fun h => h.1) id)⟩
  · obtain ⟨g1, g2⟩ := any_partsE hL
    show (longP x || (x.kids ++ [y]).any (anyE longP d)) = false
    rw [g1, Bool.false_or, List.any_eq_false]
    intro z hz
    rcases List.mem_append.1 hz with hz | hz
    · rw [g2 z hz]; simp
    · simp at hz; subst hz; rw [hl]; simp
theorem ESt.wide {cs : List Value} {d' : Nat} (h : ESt w0 w br a len cap bs eb d cs x p wr) (hd : d ≤ d') : ESt w0 w br a len cap bs eb d' cs x p wr := ⟨h.res, h.lt, h.erow, exprP_le hd h.ex, h.top.wide hd (Nat.le_refl _) (Nat.le_refl _)⟩
theorem FSt.wide {cs : List Value} {d' : Nat} (h : FSt w0 w br a len cap bs eb d cs x p wr) (hd : d ≤ d') : FSt w0 w br a len cap bs eb d' cs x p wr := ⟨h.res, h.erow, exprP_le hd h.ex, by rw [anyE_deep h.ex hd]; exact h.long, h.top.wide hd (Nat.le_refl _) (Nat.le_refl _)⟩
theorem ESt.kids (h : ESt w0 w br a len cap bs eb d [.int .i64 x.op, .int .i64 x.n, .string x.name, .slice xa x.kids.length xc] x p wr) : wr.cell? ⟨eb, 3, none⟩ = some (.slice xa x.kids.length xc) := cell_of_row _ _ 3 _ _ _ h.erow
/-- The row of the parts, ready for one more. -/
theorem ESt.rows (h : ESt w0 w br a len cap bs eb d [.int .i64 x.op, .int .i64 x.n, .string x.name, .slice xa x.kids.length xc] x p wr) : (∃ cells, RowsG d (fun b => w.heap.size + 1 ≤ b ∧ b ≠ eb) (w.heap.size + 1) wr xa x.kids.length xc x.kids cells) ∧ (∀ k, (Value.slice xa x.kids.length xc).ownBlock = some k → k < eb) ∧ x.kids.length ≤ d * 10 + 10 := by
  obtain ⟨a', c', h1, h2, h3⟩ := h.top
  simp only [List.cons.injEq, Value.slice.injEq, and_true, true_and] at h1
  obtain ⟨rfl, rfl⟩ := h1
  exact ⟨(h2.wide (Nat.le_refl _) (fun k _ h => ⟨h.1, by omega⟩)).rows, h3.1, h3.2⟩
/-- The block stays while a part is appended. -/
theorem ESt.after {W w9 : World} (h : ESt w0 w br a len cap bs eb d [.int .i64 x.op, .int .i64 x.n, .string x.name, .slice xa x.kids.length xc] x p wr) (hg : W.grownBy w9 (Value.slice xa x.kids.length xc).ownBlock) (hb : Below wr.heap.size wr W) : w9.heap[eb]? = some (.cells #[.int .i64 x.op, .int .i64 x.n, .string x.name, .slice xa x.kids.length xc] 54 (0, 0)) := by
  have hW := h.later hb
  refine (hg.block eb hW.size (fun e => ?_)).trans hW.erow
  have := h.rows.2.1 eb e.symm
  omega
end

/-- What a number makes of an expression. -/
def bendF (bs : List Int) (v : Int) (x : ExprD) (q : Nat) : ExprD × Nat :=
    if v = 0 then (.mk x.op (numF bs [-1, 256, 3] (q + 1)) x.name x.kids, q + 2)
    else if v = 1 then (.mk x.op x.n (ofF bs [(⟨#[]⟩ : ByteArray), ⟨#[100, 111]⟩, ⟨#[65]⟩, ⟨#[97, 98, 99, 100, 101]⟩, ⟨#[113]⟩] (q + 1)) x.kids, q + 2)
    else if v = 2 then (.mk (numF bs [0, 14, -1, 5, 11] (q + 1)) x.n x.name x.kids, q + 2)
    else if v = 3 then (.mk x.op x.n x.name (x.kids ++ [(leafF bs [] (q + 1)).1]), (leafF bs [] (q + 1)).2)
    else if v = 4 then anyF bs 7 (q + 1)
    else (x, q + 1)
/-- A bent expression. -/
def bentEF (bs : List Int) (p : Nat) : ExprD × Nat := bendF bs (pickF bs 20 (anyF bs 4 p).2) (anyF bs 4 p).1 (anyF bs 4 p).2
theorem bentEF_eq {bs : List Int} {p q : Nat} {x : ExprD} {v : Int} (h : anyF bs 4 p = (x, q)) (hv : pickF bs 20 q = v) : bentEF bs p = bendF bs v x q := by
  simp only [bentEF, h, hv]

set_option maxRecDepth 100000 in
set_option maxHeartbeats 8000000 in
theorem l2Bent_any (w0 w : World) (br : Nat) (a : Option Addr) (len cap : Nat) (bs : List Int) (hlen : len ≤ 2000) (p : Nat) (hrd : Rd w0 w br a len cap bs p) (hp : p ≤ 100000000) :
    Calls Tryd.prog 26 #[.pointer (some ⟨br, 0, none⟩)] w fun e w' => ExprDrawn w0 w br a len cap bs p 2000 12 (bentEF bs) e w' := by
  have HP := Lib.hid hp
  have HR := Lib.hid (ResAt.start hrd)
  clear hrd hp
  go_enter Tryd.func26, Tryd.ntmps26
  go_upto_region 1 with fail
  generalize w.alloc (.cells #[.int .i64 0, .int .i64 0, .string ⟨#[]⟩, .slice none 0 0] 54) = W1 at HR ⊢
  have HC4 := Lib.hid (show costE 4 = 124 from rfl)
  have HC7 := Lib.hid (show costE 7 = 1020 from rfl)
  have HCALL := Lib.hid (l2Any_any w0 _ br a len cap bs hlen 4 (by omega) p HR.out.rd (by have := HP.out; have := HC4.out; omega))
  go_wp2_with fail
  refine HCALL.out.mono ?_
  rintro e w2 ⟨ecs, x, q2, rfl, hrd2, hq2, ht2, hx2, hl2, hT2, hF2⟩
  obtain ⟨xa, xc, rfl⟩ := exprP_form hx2
  have hR2 := HR.out.step ht2 hrd2
  have HE := Lib.hid (show ESt w0 w br a len cap bs w2.heap.size 11 [.int .i64 x.op, .int .i64 x.n, .string x.name, .slice xa x.kids.length xc] x q2 (w2.alloc (.cells #[.int .i64 x.op, .int .i64 x.n, .string x.name, .slice xa x.kids.length xc] 54)) from
    ESt.wide (d := 9) ⟨hR2.alloc _, hR2.size, heap_alloc_new w2 _, exprP_below ((Below.refl _ _).alloc (Nat.le_refl _) _) (exprP_mono (fun k h1 h => by have h2 := HR.out.size; exact ⟨by omega, h1⟩) hx2), (hT2.wide (Nat.le_refl _) (by have h2 := HR.out.size; omega) (Nat.le_refl _)).below ((Below.refl _ _).alloc (Nat.le_refl _) _)⟩ (by omega))
  have HL := Lib.hid (show anyE longP 11 x = false by rw [anyE_deep hx2 (by omega)]; exact hl2)
  have HQ2 := Lib.hid (show q2 ≤ p + 224 by have := HC4.out; omega)
  have HF2 := Lib.hid hF2
  clear hrd2 hq2 ht2 hx2 hl2 hR2 hT2 HCALL hF2
  go_upto_region 2 with fail
  obtain ⟨eb, heb⟩ : ∃ b, b = w2.heap.size := ⟨_, rfl⟩
  rw [← heb] at HE ⊢
  generalize w2.alloc (.cells #[.int .i64 x.op, .int .i64 x.n, .string x.name, .slice xa x.kids.length xc] 54) = W3 at HE ⊢
  clear heb HR
  go_wp2_with fail
  refine (pick_fun w0 _ br a len cap bs q2 20 HE.out.res.rd (by omega) hlen (by have := HP.out; have := HQ2.out; omega)).mono ?_
  rintro e w4 ⟨v, _, _, rfl, hrd4, hg4, hV4⟩
  have HE4 := Lib.hid (HE.out.step (TurnR.grown hg4) hrd4)
  have HFB := Lib.hid (bentEF_eq HF2.out hV4)
  clear hrd4 hg4 HE hV4
  have HNA := Lib.hid (And.intro (exprP_op HE4.out.ex) (long_name HE4.out.ex HL.out))
  by_cases h0 : v = 0
  · subst h0
    go_wp2_with fail
    refine (num_fun w0 _ br a len cap bs (q2 + 1) w4.heap.size 3 3 [-1, 256, 3] (HE4.out.alloc _).res.rd (litI w4 [-1, 256, 3]) (by have := HE4.out.res.rd.lt; omega) (by omega) hlen (by have := HP.out; have := HQ2.out; omega)).mono ?_
    rintro e w5 ⟨u, -, rfl, hrd5, hg5, hF5⟩
    have HE5 := Lib.hid ((HE4.out.alloc (.cells ([-1, 256, 3].map (Value.int .i64)).toArray 3)).step (TurnR.grown hg5) hrd5)
    have HF := Lib.hid ((HE5.out.head HL.out (n := u) HNA.out.1 HNA.out.2 1 (.int .i64 u) rfl).wide (by omega : 11 ≤ 12))
    have HQ := Lib.hid (show q2 + 1 + 1 ≤ p + 2000 by have := HQ2.out; omega)
    clear hrd5 hg5
    have k1 := cell_of_row _ _ 1 _ _ _ HE5.out.erow
    simp only [List.getElem?_toArray, List.getElem?_cons_zero, List.getElem?_cons_succ] at k1
    have g1 := frozen_of_row _ _ 1 _ _ HE5.out.erow
    go_upto_region 13 with fail
    clear k1 g1
    generalize w5.setCell ⟨eb, 1, none⟩ (.int .i64 u) = W6 at HF ⊢
    have e0 := cell_of_row _ _ 0 _ _ _ HF.out.erow
    have e1 := cell_of_row _ _ 1 _ _ _ HF.out.erow
    have e2 := cell_of_row _ _ 2 _ _ _ HF.out.erow
    have e3 := cell_of_row _ _ 3 _ _ _ HF.out.erow
    simp only [List.getElem?_toArray, List.getElem?_cons_zero, List.getElem?_cons_succ] at e0 e1 e2 e3
    have c0 := HF.out.res.c0
    have c1 := HF.out.res.c1
    have c2 := HF.out.res.c2
    have c3 := HF.out.res.c3
    have f0 := HF.out.res.f 0
    have f1 := HF.out.res.f 1
    have f2 := HF.out.res.f 2
    have f3 := HF.out.res.f 3
    go_wp2
    refine bodyPost_ret (results_cell_row rfl _ _ w.heap.size 54 #[.int .i64 x.op, .int .i64 u, .string x.name, .slice xa x.kids.length xc] (0, 0) _ rfl ?_ Tryd.underlying54 rfl (by kernel_rfl)) rfl ?_
    · exact HF.out.res.put (cs := [.int .i64 x.op, .int .i64 u, .string x.name, .slice xa x.kids.length xc]) rfl
    have hdone := HF.out.res.done (p := p) (P := 2000) HF.out.ex HF.out.long (by have := HQ.out; omega) HF.out.top (F := bentEF bs) (by rw [HFB.out, bendF]; simp [hF5])
    rw [setCells4] at hdone
    exact hdone
  have e00 : (v == 0) = false := by simpa using h0
  by_cases h1 : v = 1
  · subst h1
    clear h0
    go_wp2_with fail
    refine (of_fun w0 _ br a len cap bs (q2 + 1) (some ⟨w4.heap.size, 0, none⟩) 5 5 [(⟨#[]⟩ : ByteArray), ⟨#[100, 111]⟩, ⟨#[65]⟩, ⟨#[97, 98, 99, 100, 101]⟩, ⟨#[113]⟩] (HE4.out.alloc (.cells ([(⟨#[]⟩ : ByteArray), ⟨#[100, 111]⟩, ⟨#[65]⟩, ⟨#[97, 98, 99, 100, 101]⟩, ⟨#[113]⟩].map Value.string).toArray 9)).res.rd (StrsA.lit w4 _ HE4.out.res.rd.lt) (by omega) hlen (by have := HP.out; have := HQ2.out; omega)).mono ?_
    rintro e w5 ⟨nm, hnm, rfl, hrd5, hg5, hF5⟩
    have HNM := Lib.hid (show nm.size ≤ maxLen by
      have : ∀ s ∈ [(⟨#[]⟩ : ByteArray), ⟨#[100, 111]⟩, ⟨#[65]⟩, ⟨#[97, 98, 99, 100, 101]⟩, ⟨#[113]⟩], s.size ≤ maxLen := by decide
      exact this nm hnm)
    have HE5 := Lib.hid ((HE4.out.alloc (.cells ([(⟨#[]⟩ : ByteArray), ⟨#[100, 111]⟩, ⟨#[65]⟩, ⟨#[97, 98, 99, 100, 101]⟩, ⟨#[113]⟩].map Value.string).toArray 9)).step (TurnR.grown hg5) hrd5)
    have HF := Lib.hid ((HE5.out.head HL.out (s := nm) HNA.out.1 HNM.out 2 (.string nm) rfl).wide (by omega : 11 ≤ 12))
    have HQ := Lib.hid (show q2 + 1 + 1 ≤ p + 2000 by have := HQ2.out; omega)
    clear hrd5 hg5 hnm
    have k1 := cell_of_row _ _ 2 _ _ _ HE5.out.erow
    simp only [List.getElem?_toArray, List.getElem?_cons_zero, List.getElem?_cons_succ] at k1
    have g1 := frozen_of_row _ _ 2 _ _ HE5.out.erow
    go_upto_region 13 with fail
    clear k1 g1
    generalize w5.setCell ⟨eb, 2, none⟩ (.string nm) = W6 at HF ⊢
    have e0 := cell_of_row _ _ 0 _ _ _ HF.out.erow
    have e1 := cell_of_row _ _ 1 _ _ _ HF.out.erow
    have e2 := cell_of_row _ _ 2 _ _ _ HF.out.erow
    have e3 := cell_of_row _ _ 3 _ _ _ HF.out.erow
    simp only [List.getElem?_toArray, List.getElem?_cons_zero, List.getElem?_cons_succ] at e0 e1 e2 e3
    have c0 := HF.out.res.c0
    have c1 := HF.out.res.c1
    have c2 := HF.out.res.c2
    have c3 := HF.out.res.c3
    have f0 := HF.out.res.f 0
    have f1 := HF.out.res.f 1
    have f2 := HF.out.res.f 2
    have f3 := HF.out.res.f 3
    go_wp2
    refine bodyPost_ret (results_cell_row rfl _ _ w.heap.size 54 #[.int .i64 x.op, .int .i64 x.n, .string nm, .slice xa x.kids.length xc] (0, 0) _ rfl ?_ Tryd.underlying54 rfl (by kernel_rfl)) rfl ?_
    · exact HF.out.res.put (cs := [.int .i64 x.op, .int .i64 x.n, .string nm, .slice xa x.kids.length xc]) rfl
    have hdone := HF.out.res.done (p := p) (P := 2000) HF.out.ex HF.out.long (by have := HQ.out; omega) HF.out.top (F := bentEF bs) (by rw [HFB.out, bendF]; simp [hF5])
    rw [setCells4] at hdone
    exact hdone
  have e01 : (v == 1) = false := by simpa using h1
  by_cases h2 : v = 2
  · subst h2
    clear h0 h1
    go_wp2_with fail
    refine (num_fun w0 _ br a len cap bs (q2 + 1) w4.heap.size 5 5 [0, 14, -1, 5, 11] (HE4.out.alloc _).res.rd (litI w4 [0, 14, -1, 5, 11]) (by have := HE4.out.res.rd.lt; omega) (by omega) hlen (by have := HP.out; have := HQ2.out; omega)).mono ?_
    rintro e w5 ⟨u, hu, rfl, hrd5, hg5, hF5⟩
    have HE5 := Lib.hid ((HE4.out.alloc (.cells ([0, 14, -1, 5, 11].map (Value.int .i64)).toArray 3)).step (TurnR.grown hg5) hrd5)
    have HF := Lib.hid ((HE5.out.head HL.out (op := u) (by simp at hu; omega) HNA.out.2 0 (.int .i64 u) rfl).wide (by omega : 11 ≤ 12))
    have HQ := Lib.hid (show q2 + 1 + 1 ≤ p + 2000 by have := HQ2.out; omega)
    clear hrd5 hg5 hu
    have k1 := cell_of_row _ _ 0 _ _ _ HE5.out.erow
    simp only [List.getElem?_toArray, List.getElem?_cons_zero] at k1
    have g1 := frozen_of_row _ _ 0 _ _ HE5.out.erow
    go_upto_region 13 with fail
    clear k1 g1
    generalize w5.setCell ⟨eb, 0, none⟩ (.int .i64 u) = W6 at HF ⊢
    have e0 := cell_of_row _ _ 0 _ _ _ HF.out.erow
    have e1 := cell_of_row _ _ 1 _ _ _ HF.out.erow
    have e2 := cell_of_row _ _ 2 _ _ _ HF.out.erow
    have e3 := cell_of_row _ _ 3 _ _ _ HF.out.erow
    simp only [List.getElem?_toArray, List.getElem?_cons_zero, List.getElem?_cons_succ] at e0 e1 e2 e3
    have c0 := HF.out.res.c0
    have c1 := HF.out.res.c1
    have c2 := HF.out.res.c2
    have c3 := HF.out.res.c3
    have f0 := HF.out.res.f 0
    have f1 := HF.out.res.f 1
    have f2 := HF.out.res.f 2
    have f3 := HF.out.res.f 3
    go_wp2
    refine bodyPost_ret (results_cell_row rfl _ _ w.heap.size 54 #[.int .i64 u, .int .i64 x.n, .string x.name, .slice xa x.kids.length xc] (0, 0) _ rfl ?_ Tryd.underlying54 rfl (by kernel_rfl)) rfl ?_
    · exact HF.out.res.put (cs := [.int .i64 u, .int .i64 x.n, .string x.name, .slice xa x.kids.length xc]) rfl
    have hdone := HF.out.res.done (p := p) (P := 2000) HF.out.ex HF.out.long (by have := HQ.out; omega) HF.out.top (F := bentEF bs) (by rw [HFB.out, bendF]; simp [hF5])
    rw [setCells4] at hdone
    exact hdone
  have e02 : (v == 2) = false := by simpa using h2
  by_cases h3 : v = 3
  · subst h3
    clear h0 h1 h2
    have HLF := Lib.hid (show ∀ (W : World), ESt w0 w br a len cap bs eb 11 [.int .i64 x.op, .int .i64 x.n, .string x.name, .slice xa x.kids.length xc] x (q2 + 1) W →
        Calls Tryd.prog 42 #[.pointer (some ⟨br, 0, none⟩), .slice none 0 0] W fun e W' => ∃ y ja jc q', e = .returned (.agg #[.int .i64 y.op, .int .i64 y.n, .string y.name, .slice ja y.kids.length jc]) ∧ ESt w0 w br a len cap bs eb 11 [.int .i64 x.op, .int .i64 x.n, .string x.name, .slice xa x.kids.length xc] x q' W' ∧ (q' ≤ q2 + 1 + 3 ∧ leafF bs [] (q2 + 1) = (y, q')) ∧
          ExprP 11 (fun b => eb < b) W' [.int .i64 y.op, .int .i64 y.n, .string y.name, .slice ja y.kids.length jc] y ∧ anyE longP 11 y = false from fun W hW => by
      refine (l2Leaf_any w0 W br a len cap bs (q2 + 1) none 0 0 [] hW.res.rd hlen (by have := HP.out; have := HQ2.out; omega) ⟨⟨rfl, .inl rfl⟩, fun h => absurd rfl h⟩ (by simp) (by omega)).mono ?_
      rintro e W' ⟨cs, y, q', rfl, hrd, hq, ht, hy, hl, -, hFy⟩
      obtain ⟨ja, jc, rfl⟩ := exprP_form hy
      exact ⟨y, ja, jc, q', rfl, hW.step ht hrd, ⟨hq, hFy⟩, exprP_le (by omega) (exprP_mono (fun i _ h2 => by have := hW.size; omega) hy), by rw [anyE_deep hy (by omega)]; exact hl⟩)
    have HL12 := Lib.hid (show anyE longP (11 + 1) x = false by rw [anyE_deep HE4.out.ex (by omega)]; exact HL.out)
    have HK12 := Lib.hid HE4.out.rows.2.2
    have k3 := HE4.out.kids
    go_upto_region 10 with fail
    go_region_law (first | (go_simp; go_at_call 42; refine (HLF.out _ (by repeat (first | exact HE4.out | apply ESt.drew | apply ESt.drewN | apply ESt.alloc))).mono ?_; rintro e w8 ⟨y, ja, jc, q8, rfl, hA8, hq8, hy8, hl8⟩; (have k38 := hA8.kids); (have i38 := (hA8.alloc (.cells #[.int .i64 y.op, .int .i64 y.n, .string y.name, .slice ja y.kids.length jc] 54)).kids); (obtain ⟨⟨cells, hrows⟩, hne, -⟩ := hA8.rows)) | (refine step_app_expr rfl (.tmp 29) (.tmp 32) rfl (w.heap.size + 1) _ x.kids.length _ rfl (ownsRow_below hrows.1 (by repeat (first | exact Below.refl _ _ | apply later_drew | apply later_drewN | apply later_alloc))) _ 1 [.int .i64 y.op, .int .i64 y.n, .string y.name, .slice ja y.kids.length jc] rfl (by first | exact rowAt_laidE' _ _ _ | exact RowAt.drew (rowAt_laidE' _ _ _)) rfl oneCell_expr (by have := HK12.out; omega) (Nat.le_trans hA8.res.size (Below.size (show Below w8.heap.size w8 _ from by repeat (first | exact Below.refl _ _ | apply later_drew | apply later_drewN | apply later_alloc)))) ?_; intro a9 c9 w9 hown9 hg9 hlies9; (have h9 := hA8.after hg9 (by repeat (first | exact Below.refl _ _ | apply later_drew | apply later_drewN | apply later_alloc))); (have s3 := cell_of_row _ _ 3 _ _ _ h9); (have t3 := frozen_of_row _ _ 3 _ _ h9); (have hP9 := ESt.push (hA8.wide (by omega : 11 ≤ 11 + 1)) hrows hne hy8 HNA.out.1 HL12.out hl8 rfl HK12.out (by decide) hown9 hg9 hlies9 (by repeat (first | exact Below.refl _ _ | apply later_drew | apply later_drewN | apply later_alloc)))))
    all_goals
      have HF := Lib.hid hP9
      have HQ := Lib.hid (show q8 ≤ p + 2000 by have := HQ2.out; have := hq8.1; omega)
      have HF8 := Lib.hid hq8.2
      clear hA8 hq8 hy8 hl8 k38 i38 hrows hne hown9 hg9 hlies9 h9 s3 t3 hP9 k3
      go_upto_region 13 with fail
      generalize w9.setCell ⟨eb, 3, none⟩ (.slice a9 (x.kids.length + 1) c9) = W6 at HF ⊢
      have e0 := cell_of_row _ _ 0 _ _ _ HF.out.erow
      have e1 := cell_of_row _ _ 1 _ _ _ HF.out.erow
      have e2 := cell_of_row _ _ 2 _ _ _ HF.out.erow
      have e3 := cell_of_row _ _ 3 _ _ _ HF.out.erow
      simp only [List.getElem?_toArray, List.getElem?_cons_zero, List.getElem?_cons_succ] at e0 e1 e2 e3
      have c0 := HF.out.res.c0
      have c1 := HF.out.res.c1
      have c2 := HF.out.res.c2
      have c3 := HF.out.res.c3
      have f0 := HF.out.res.f 0
      have f1 := HF.out.res.f 1
      have f2 := HF.out.res.f 2
      have f3 := HF.out.res.f 3
      go_wp2
      refine bodyPost_ret (results_cell_row rfl _ _ w.heap.size 54 #[.int .i64 x.op, .int .i64 x.n, .string x.name, .slice a9 (x.kids.length + 1) c9] (0, 0) _ rfl ?_ Tryd.underlying54 rfl (by kernel_rfl)) rfl ?_
      · exact HF.out.res.put (cs := [.int .i64 x.op, .int .i64 x.n, .string x.name, .slice a9 (x.kids.length + 1) c9]) rfl
      have hdone := HF.out.res.done (p := p) (P := 2000) HF.out.ex HF.out.long (by have := HQ.out; omega) HF.out.top (F := bentEF bs) (by rw [HFB.out, bendF]; simp [HF8.out])
      rw [setCells4] at hdone
      exact hdone
  have e03 : (v == 3) = false := by simpa using h3
  by_cases h4 : v = 4
  · subst h4
    clear h0 h1 h2 h3
    have HCALL := Lib.hid (l2Any_any w0 _ br a len cap bs hlen 7 (by omega) (q2 + 1) HE4.out.res.rd (by have := HP.out; have := HC7.out; have := HQ2.out; omega))
    go_wp2_with fail
    refine HCALL.out.mono ?_
    rintro e w5 ⟨ycs, y, q5, rfl, hrd5, hq5, ht5, hy5, hl5, hT5, hF5⟩
    obtain ⟨ya, yc, rfl⟩ := exprP_form hy5
    have HE5 := Lib.hid (HE4.out.step ht5 hrd5)
    have HF := Lib.hid ((HE5.out.wide (by omega : 11 ≤ 12)).put (cs' := [.int .i64 y.op, .int .i64 y.n, .string y.name, .slice ya y.kids.length yc]) rfl (exprP_mono (fun k _ h => by have := HE4.out.size; omega) hy5) hl5 (hT5.wide (Nat.le_refl _) (by have := HE4.out.size; omega) (Nat.le_refl _)))
    have HQ := Lib.hid (show q5 ≤ p + 2000 by have := HQ2.out; have := HC7.out; omega)
    have HF5 := Lib.hid hF5
    clear hrd5 hq5 ht5 hy5 hl5 hT5 HCALL hF5
    have k0 := cell_of_row _ _ 0 _ _ _ HE5.out.erow
    have k1 := cell_of_row _ _ 1 _ _ _ HE5.out.erow
    have k2 := cell_of_row _ _ 2 _ _ _ HE5.out.erow
    have k3 := cell_of_row _ _ 3 _ _ _ HE5.out.erow
    simp only [List.getElem?_toArray, List.getElem?_cons_zero, List.getElem?_cons_succ] at k0 k1 k2 k3
    have g0 := frozen_of_row _ _ 0 _ _ HE5.out.erow
    have g1 := frozen_of_row _ _ 1 _ _ HE5.out.erow
    have g2 := frozen_of_row _ _ 2 _ _ HE5.out.erow
    have g3 := frozen_of_row _ _ 3 _ _ HE5.out.erow
    rw [setCells4] at HF
    go_upto_region 13 with fail
    clear k0 k1 k2 k3 g0 g1 g2 g3
    generalize (((w5.setCell ⟨eb, 0, none⟩ (.int .i64 y.op)).setCell ⟨eb, 1, none⟩ (.int .i64 y.n)).setCell ⟨eb, 2, none⟩ (.string y.name)).setCell ⟨eb, 3, none⟩ (.slice ya y.kids.length yc) = W6 at HF ⊢
    have e0 := cell_of_row _ _ 0 _ _ _ HF.out.erow
    have e1 := cell_of_row _ _ 1 _ _ _ HF.out.erow
    have e2 := cell_of_row _ _ 2 _ _ _ HF.out.erow
    have e3 := cell_of_row _ _ 3 _ _ _ HF.out.erow
    simp only [List.getElem?_toArray, List.getElem?_cons_zero, List.getElem?_cons_succ] at e0 e1 e2 e3
    have c0 := HF.out.res.c0
    have c1 := HF.out.res.c1
    have c2 := HF.out.res.c2
    have c3 := HF.out.res.c3
    have f0 := HF.out.res.f 0
    have f1 := HF.out.res.f 1
    have f2 := HF.out.res.f 2
    have f3 := HF.out.res.f 3
    go_wp2
    refine bodyPost_ret (results_cell_row rfl _ _ w.heap.size 54 #[.int .i64 y.op, .int .i64 y.n, .string y.name, .slice ya y.kids.length yc] (0, 0) _ rfl ?_ Tryd.underlying54 rfl (by kernel_rfl)) rfl ?_
    · exact HF.out.res.put (cs := [.int .i64 y.op, .int .i64 y.n, .string y.name, .slice ya y.kids.length yc]) rfl
    have hdone := HF.out.res.done (p := p) (P := 2000) HF.out.ex HF.out.long (by have := HQ.out; omega) HF.out.top (F := bentEF bs) (by rw [HFB.out, bendF]; simp [HF5.out])
    rw [setCells4] at hdone
    exact hdone
  have e04 : (v == 4) = false := by simpa using h4
  have HFL := Lib.hid (show bentEF bs p = (x, q2 + 1) by rw [HFB.out, bendF, if_neg h0, if_neg h1, if_neg h2, if_neg h3, if_neg h4])
  clear h0 h1 h2 h3 h4
  have HF := Lib.hid (HE4.out.fst HL.out |>.wide (by omega : 11 ≤ 12))
  have HQ := Lib.hid (show q2 + 1 ≤ p + 2000 by have := HQ2.out; omega)
  go_upto_region 13 with fail
  have e0 := cell_of_row _ _ 0 _ _ _ HF.out.erow
  have e1 := cell_of_row _ _ 1 _ _ _ HF.out.erow
  have e2 := cell_of_row _ _ 2 _ _ _ HF.out.erow
  have e3 := cell_of_row _ _ 3 _ _ _ HF.out.erow
  simp only [List.getElem?_toArray, List.getElem?_cons_zero, List.getElem?_cons_succ] at e0 e1 e2 e3
  have c0 := HF.out.res.c0
  have c1 := HF.out.res.c1
  have c2 := HF.out.res.c2
  have c3 := HF.out.res.c3
  have f0 := HF.out.res.f 0
  have f1 := HF.out.res.f 1
  have f2 := HF.out.res.f 2
  have f3 := HF.out.res.f 3
  go_wp2
  refine bodyPost_ret (results_cell_row rfl _ _ w.heap.size 54 #[.int .i64 x.op, .int .i64 x.n, .string x.name, .slice xa x.kids.length xc] (0, 0) _ rfl ?_ Tryd.underlying54 rfl (by kernel_rfl)) rfl ?_
  · exact HF.out.res.put (cs := [.int .i64 x.op, .int .i64 x.n, .string x.name, .slice xa x.kids.length xc]) rfl
  have hdone := HF.out.res.done (p := p) (P := 2000) HF.out.ex HF.out.long (by have := HQ.out; omega) HF.out.top (F := bentEF bs) (by rw [HFL.out])
  rw [setCells4] at hdone
  exact hdone
end Go.Proofs.YtccdmgncjlpebaaDoor
