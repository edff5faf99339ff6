/-
  The reference draws expressions: the reader's own block alone changes; leaves.
-/
import Derived.Test.YtccdmgncjlpebaaDoorPe1
import Derived.Test.YtccdmgncjlpebaaDoorFa
import Derived.Test.YtccdmgncjlpebaaDoorEs2

namespace Go.Proofs.YtccdmgncjlpebaaDoor
open Go.RowKit
set_option linter.unusedVariables false

/-- Only the reader and new blocks have changed. -/
def TurnR (br : Nat) (w w' : World) : Prop := Turned (fun k => k = br ∨ w.heap.size ≤ k) w w'
theorem TurnR.trans {br : Nat} {a b c : World} (h : TurnR br a b) (k : TurnR br b c) : TurnR br a c :=
  Turned.trans (S := fun k => k = br ∨ a.heap.size ≤ k) h (k.mono (fun i hi => hi.imp id (fun h2 => Nat.le_trans h.size h2)))
theorem TurnR.grown {br : Nat} {w w' : World} (hg : w.grownBy w' (some br)) : TurnR br w w' := turned_of_grown hg (fun k hk => by cases hk; exact .inl rfl)
theorem TurnR.below {br : Nat} {w w' : World} (hb : Below w.heap.size w w') : TurnR br w w' := turned_of_below hb (fun k h1 h2 => absurd h2 (by omega))
theorem TurnR.alloc (br : Nat) (w : World) (o : Obj) : TurnR br w (w.alloc o) := TurnR.below ((Below.refl _ _).alloc (Nat.le_refl _) _)
theorem TurnR.block {br : Nat} {w w' : World} (h : TurnR br w w') {b : Nat} (hb : b < w.heap.size) (hne : b ≠ br) : w'.heap[b]? = w.heap[b]? :=
  Turned.block (S := fun k => k = br ∨ w.heap.size ≤ k) h b hb (by rintro (h1 | h1) <;> omega)
theorem TurnR.expr {br b : Nat} {w w' : World} (h : TurnR br w w') (hb : br < b) {d : Nat} {cs : List Value} {x : ExprD} (hx : ExprP d (fun k => b < k) w cs x) : ExprP d (fun k => b < k) w' cs x :=
  exprP_turned (T := fun k => k = br ∨ w.heap.size ≤ k) h (fun k h1 h2 h3 => by rcases h3 with h3 | h3 <;> omega) hx
theorem Rd.later' {w0 w w' : World} {br : Nat} {a : Option Addr} {len cap : Nat} {bs : List Int} {p : Nat} (h : Rd w0 w br a len cap bs p) (hb : Below w.heap.size w w') : Rd w0 w' br a len cap bs p :=
  ⟨h.bytes, h.below.trans (hb.mono h.below.size), h.base, (hb.block br h.lt).trans h.blk⟩

theorem rowAt_laidE' (w : World) (cs : List Value) (t : TypeId) : RowAt (w.alloc (.cells cs.toArray t)) (some ⟨w.heap.size, 0, none⟩) cs :=
  .inr ⟨_, _, rfl, fun i v hv => by
    rw [cell_of_row _ _ (0 + i) _ _ _ (heap_alloc_new w (.cells cs.toArray t))]
    simpa using hv⟩
theorem litI (w : World) (xs : List Int) : IntsRd (w.alloc (.cells (xs.map (Value.int .i64)).toArray 3)) (some ⟨w.heap.size, 0, none⟩) xs.length xs :=
  ⟨by rfl, rowAt_laidE' w _ _⟩
/-- Texts that lie elsewhere than the reader. -/
structure StrsA (br : Nat) (w : World) (a : Option Addr) (n : Nat) (xs : List ByteArray) : Prop where
  rd : StrsE w a n xs
  away : n ≠ 0 → ∃ b off, a = some ⟨b, off, none⟩ ∧ b ≠ br ∧ b < w.heap.size
theorem StrsA.turn {br : Nat} {w w' : World} {a : Option Addr} {n : Nat} {xs : List ByteArray} (h : StrsA br w a n xs) (ht : TurnR br w w') : StrsA br w' a n xs := by
  refine ⟨⟨h.rd.length, ?_⟩, fun hn => by obtain ⟨b, off, h1, h2, h3⟩ := h.away hn; exact ⟨b, off, h1, h2, Nat.lt_of_lt_of_le h3 (Turned.size (S := fun k => k = br ∨ w.heap.size ≤ k) ht)⟩⟩
  by_cases hn : n = 0
  · have := h.rd.length
    exact .inl (by rw [show xs = [] from List.length_eq_zero_iff.1 (by omega)]; rfl)
  · obtain ⟨b, off, rfl, h2, h3⟩ := h.away hn
    rcases h.rd.row with h0 | ⟨b', off', he, h1⟩
    · exact .inl h0
    · cases he
      exact .inr ⟨b, off, rfl, fun i v hv => (World.cell?_of_block (ht.block h3 h2)).trans (h1 i v hv)⟩
theorem StrsA.lit {br : Nat} (w : World) (xs : List ByteArray) (hbr : br < w.heap.size) : StrsA br (w.alloc (.cells (xs.map Value.string).toArray 9)) (some ⟨w.heap.size, 0, none⟩) xs.length xs :=
  ⟨⟨rfl, rowAt_laidE' w _ _⟩, fun _ => ⟨_, _, rfl, by omega, by rw [World.size_alloc]; omega⟩⟩
set_option maxHeartbeats 400000 in
theorem of_fun (w0 w : World) (br : Nat) (a : Option Addr) (len cap : Nat) (bs : List Int) (p : Nat) (na : Option Addr) (n c : Nat) (ns : List ByteArray) (hrd : Rd w0 w br a len cap bs p) (hin : StrsA br w na n ns)
    (hn : 1 ≤ n) (hlen : len ≤ 2000) (hp : p ≤ 1099511627776) :
    Calls Tryd.prog 12 #[.pointer (some ⟨br, 0, none⟩), .slice na n c] w fun e w' => ∃ s ∈ ns, e = .returned (.string s) ∧ Rd w0 w' br a len cap bs (p + 1) ∧ w.grownBy w' (some br) ∧ ofF bs ns p = s := by
  go_enter Tryd.func12, Tryd.ntmps12
  go_wp2_with fail
  refine (pick_fun w0 w br a len cap bs p n hrd (by omega) hlen hp).mono ?_
  rintro e w1 ⟨v, hv0, hv1, rfl, hrd1, hg1, hF⟩
  obtain ⟨j, rfl⟩ := Int.eq_ofNat_of_zero_le hv0
  obtain ⟨b, off, x, rfl, hx, hc⟩ := (hin.turn (TurnR.grown hg1)).rd.place (show j < n by omega)
  have hjn : j < n := by omega
  have HX := Lib.hid (And.intro hx (And.intro hrd1 hg1))
  have HF := Lib.hid (show ofF bs ns p = x from by rw [ofF, show (ns.length : Int) = n by have := hin.rd.length; omega, hF]; simp [List.getD, hx])
  clear hF
  clear hx hv0 hrd hin hrd1 hg1
  go_wp2
  go_ret
  exact ⟨x, List.mem_of_getElem? HX.out.1, rfl, HX.out.2.1, HX.out.2.2, HF.out⟩

/-- A leaf, as a function of the bytes. -/
def leafF (bs : List Int) (ns : List ByteArray) (p : Nat) : ExprD × Nat :=
  if ns.length = 0 then (.mk 1 (numF bs [0, 1, 2, 3, 5, 7, 15, 16, 100, 255] p) ⟨#[]⟩ [], p + 1)
  else if pickF bs 3 p = 0 then (.mk 1 (numF bs [0, 1, 2, 3, 5, 7, 15, 16, 100, 255] (p + 1)) ⟨#[]⟩ [], p + 2)
  else (.mk 2 0 (ofF bs ns (p + 1)) [], p + 2)
/-- An expression of at most so deep. -/
def exprF (bs : List Int) (ns : List ByteArray) : Nat → Nat → ExprD × Nat
  | 0, p => leafF bs ns p
  | m + 1, p =>
    if m = 0 then leafF bs ns p
    else if pickF bs 4 p = 0 then leafF bs ns (p + 1)
    else if pickF bs 7 (p + 1) = 0 then (.mk (numF bs [11, 12, 11] (p + 2)) 0 ⟨#[]⟩ [(exprF bs ns m (p + 3)).1], (exprF bs ns m (p + 3)).2)
    else (.mk (numF bs [3, 3, 4, 5, 6, 7, 8, 9, 10] (p + 2)) 0 ⟨#[]⟩ [(exprF bs ns m (p + 3)).1, (exprF bs ns m (exprF bs ns m (p + 3)).2).1], (exprF bs ns m (exprF bs ns m (p + 3)).2).2)
/-- An expression was drawn. -/
def ExprDrawn (w0 w : World) (br : Nat) (a : Option Addr) (len cap : Nat) (bs : List Int) (p P d : Nat) (F : Nat → ExprD × Nat) (e : Ending) (w' : World) : Prop :=
  ∃ cs x q, e = .returned (.agg (List.toArray cs)) ∧ Rd w0 w' br a len cap bs q ∧ q ≤ p + P ∧ TurnR br w w' ∧ ExprP d (fun k => w.heap.size ≤ k) w' cs x ∧ anyE longP d x = false ∧ TopG d w.heap.size w'.heap.size w' cs x ∧ F p = (x, q)
/-- The block of the result. -/
structure ResAt (w0 w : World) (br : Nat) (a : Option Addr) (len cap : Nat) (bs : List Int) (p : Nat) (wr : World) : Prop where
  rd : Rd w0 wr br a len cap bs p
  turned : TurnR br w wr
  lt : br < w.heap.size
  row : wr.heap[w.heap.size]? = some (.cells #[.int .i64 0, .int .i64 0, .string ⟨#[]⟩, .slice none 0 0] 54 (0, 0))
section
variable {w0 w wr w' : World} {br : Nat} {a : Option Addr} {len cap : Nat} {bs : List Int} {p q : Nat}
theorem ResAt.start (h : Rd w0 w br a len cap bs p) : ResAt w0 w br a len cap bs p (w.alloc (.cells #[.int .i64 0, .int .i64 0, .string ⟨#[]⟩, .slice none 0 0] 54)) :=
  ⟨h.alloc _, TurnR.alloc _ _ _, h.lt, heap_alloc_new w _⟩
theorem ResAt.size (h : ResAt w0 w br a len cap bs p wr) : w.heap.size < wr.heap.size := (Array.getElem?_eq_some_iff.1 h.row).1
theorem ResAt.step (h : ResAt w0 w br a len cap bs p wr) (ht : TurnR br wr w') (hr : Rd w0 w' br a len cap bs q) : ResAt w0 w br a len cap bs q w' :=
  ⟨hr, h.turned.trans ht, h.lt, (ht.block h.size (by have := h.lt; omega)).trans h.row⟩
theorem ResAt.later (h : ResAt w0 w br a len cap bs p wr) (hb : Below wr.heap.size wr w') : ResAt w0 w br a len cap bs p w' := h.step (TurnR.below hb) (h.rd.later' hb)
theorem ResAt.alloc (h : ResAt w0 w br a len cap bs p wr) (o : Obj) : ResAt w0 w br a len cap bs p (wr.alloc o) := h.later ((Below.refl _ _).alloc (Nat.le_refl _) _)
theorem ResAt.c0 (h : ResAt w0 w br a len cap bs p wr) : wr.cell? ⟨w.heap.size, 0, none⟩ = some (.int .i64 0) := cell_of_row _ _ 0 _ _ _ h.row
theorem ResAt.c1 (h : ResAt w0 w br a len cap bs p wr) : wr.cell? ⟨w.heap.size, 1, none⟩ = some (.int .i64 0) := cell_of_row _ _ 1 _ _ _ h.row
theorem ResAt.c2 (h : ResAt w0 w br a len cap bs p wr) : wr.cell? ⟨w.heap.size, 2, none⟩ = some (.string ⟨#[]⟩) := cell_of_row _ _ 2 _ _ _ h.row
theorem ResAt.c3 (h : ResAt w0 w br a len cap bs p wr) : wr.cell? ⟨w.heap.size, 3, none⟩ = some (.slice none 0 0) := cell_of_row _ _ 3 _ _ _ h.row
theorem ResAt.f (h : ResAt w0 w br a len cap bs p wr) (i : Nat) : wr.frozen? ⟨w.heap.size, i, none⟩ = false := frozen_of_row _ _ i _ _ h.row
/-- The result is laid in its block. -/
theorem ResAt.put (h : ResAt w0 w br a len cap bs q wr) {cs : List Value} (hl : cs.length = 4) : (wr.setCells w.heap.size 0 cs).heap[w.heap.size]? = some (.cells cs.toArray 54 (0, 0)) := by
  have := heap_setCells_mid (A := []) (B := [.int .i64 0, .int .i64 0, .string ⟨#[]⟩, .slice none 0 0]) (C := []) (vs := cs) (o := 0) rfl (by rw [hl]; rfl) h.row
  simpa using this
theorem ResAt.done {P d : Nat} {F : Nat → ExprD × Nat} (h : ResAt w0 w br a len cap bs q wr) {cs : List Value} {x : ExprD} (hx : ExprP d (fun k => w.heap.size < k) wr cs x) (hL : anyE longP d x = false) (hq : q ≤ p + P) (hT : TopG d (w.heap.size + 1) wr.heap.size wr cs x) (hF : F p = (x, q)) :
    ExprDrawn w0 w br a len cap bs p P d F (.returned (.agg cs.toArray)) (wr.setCells w.heap.size 0 cs) := by
  have ht := turned_setCells (g := w.heap.size) cs wr 0
  have hsz := heap_setCells_size (g := w.heap.size) cs wr 0
  refine ⟨cs, x, q, rfl, ⟨h.rd.bytes, ?_, h.rd.base, ?_⟩, hq, ?_, ?_, hL, ?_, hF⟩
  · exact h.rd.below.trans (ht.below (B := w0.heap.size) h.rd.below.size (fun k hk => by have := h.rd.base; have := h.lt; omega))
  · rw [heap_setCells_other (by have := h.lt; omega)]; exact h.rd.blk
  · exact Turned.trans (S := fun k => k = br ∨ w.heap.size ≤ k) h.turned (ht.mono (fun k hk => .inr (by omega)))
  · exact exprP_mono (fun k _ h1 => by omega) (exprP_turned ht (fun k _ h1 h2 => by omega) hx)
  · rw [hsz]
    exact (hT.turned ht (fun k _ h1 _ h3 => by omega)).wide (Nat.le_refl _) (by omega) (Nat.le_refl _)
end
theorem long_leaf (d : Nat) (op n : Int) (s : ByteArray) (hs : s.size ≤ maxLen) : anyE longP (d + 1) (.mk op n s []) = false := by
  show (decide (maxLen < s.size) || false) = false
  rw [decide_eq_false (by omega)]
  rfl

set_option maxRecDepth 100000 in
set_option maxHeartbeats 4000000 in
theorem l2Leaf_any (w0 w : World) (br : Nat) (a : Option Addr) (len cap : Nat) (bs : List Int) (p : Nat) (na : Option Addr) (nn nc : Nat) (ns : List ByteArray) (hrd : Rd w0 w br a len cap bs p) (hlen : len ≤ 2000) (hp : p ≤ 1000000000) (hns : StrsA br w na nn ns) (hsz : ∀ s ∈ ns, s.size ≤ maxLen) (hnn : nn ≤ 1000000) :
    Calls Tryd.prog 42 #[.pointer (some ⟨br, 0, none⟩), .slice na nn nc] w fun e w' => ExprDrawn w0 w br a len cap bs p 3 1 (leafF bs ns) e w' := by
  have HR := Lib.hid (ResAt.start hrd)
  have HNL := Lib.hid hns.rd.length
  have HN := Lib.hid (And.intro (hns.turn (TurnR.alloc br w (.cells #[.int .i64 0, .int .i64 0, .string ⟨#[]⟩, .slice none 0 0] 54))) hsz)
  clear hrd hns hsz
  go_enter Tryd.func42, Tryd.ntmps42
  go_upto_region 1 with fail
  generalize w.alloc (.cells #[.int .i64 0, .int .i64 0, .string ⟨#[]⟩, .slice none 0 0] 54) = W1 at HR HN ⊢
  by_cases h0 : nn = 0
  · subst h0
    go_wp2_with fail
    refine (num_fun w0 _ br a len cap bs p W1.heap.size 10 10 [0, 1, 2, 3, 5, 7, 15, 16, 100, 255] (HR.out.rd.alloc _) (litI W1 [0, 1, 2, 3, 5, 7, 15, 16, 100, 255]) (by have := HR.out.rd.lt; omega) (by omega) hlen (by omega)).mono ?_
    rintro e w3 ⟨n, -, rfl, hrd3, hg3, hF3⟩
    have HR3 := Lib.hid ((HR.out.alloc (.cells ([0, 1, 2, 3, 5, 7, 15, 16, 100, 255].map (Value.int .i64)).toArray 3)).step (TurnR.grown hg3) hrd3)
    clear hrd3 hg3
    have c0 := HR3.out.c0
    have c1 := HR3.out.c1
    have c2 := HR3.out.c2
    have c3 := HR3.out.c3
    have f0 := HR3.out.f 0
    have f1 := HR3.out.f 1
    have f2 := HR3.out.f 2
    have f3 := HR3.out.f 3
    go_wp2
    refine bodyPost_ret (results_cell_row rfl _ _ w.heap.size 54 #[.int .i64 1, .int .i64 n, .string ⟨#[]⟩, .slice none 0 0] (0, 0) _ rfl ?_ Tryd.underlying54 rfl (by kernel_rfl)) rfl ?_
    · exact HR3.out.put (cs := [.int .i64 1, .int .i64 n, .string ⟨#[]⟩, .slice none 0 0]) rfl
    exact HR3.out.done (leafP 1 n ⟨#[]⟩ (by decide) 0) (long_leaf 0 1 n ⟨#[]⟩ (by decide)) (by omega) (TopG.leaf _ _ _ _ _ _ _) (by rw [leafF, if_pos HNL.out, hF3])
  · have h1 : ((nn : Int) == 0) = false := by simp; omega
    go_wp2_with fail
    refine (pick_fun w0 _ br a len cap bs p 3 HR.out.rd (by omega) hlen (by omega)).mono ?_
    rintro e w2 ⟨v, _, _, rfl, hrd2, hg2, hF2⟩
    have HR2 := Lib.hid (HR.out.step (TurnR.grown hg2) hrd2)
    have HN2 := Lib.hid (HN.out.1.turn (TurnR.grown hg2))
    clear hrd2 hg2 h1
    by_cases hv : v = 0
    · subst hv
      go_wp2_with fail
      refine (num_fun w0 _ br a len cap bs (p + 1) w2.heap.size 10 10 [0, 1, 2, 3, 5, 7, 15, 16, 100, 255] (HR2.out.rd.alloc _) (litI w2 [0, 1, 2, 3, 5, 7, 15, 16, 100, 255]) (by have := HR2.out.rd.lt; omega) (by omega) hlen (by omega)).mono ?_
      rintro e w3 ⟨n, -, rfl, hrd3, hg3, hF3⟩
      have HR3 := Lib.hid ((HR2.out.alloc (.cells ([0, 1, 2, 3, 5, 7, 15, 16, 100, 255].map (Value.int .i64)).toArray 3)).step (TurnR.grown hg3) hrd3)
      clear hrd3 hg3
      have c0 := HR3.out.c0
      have c1 := HR3.out.c1
      have c2 := HR3.out.c2
      have c3 := HR3.out.c3
      have f0 := HR3.out.f 0
      have f1 := HR3.out.f 1
      have f2 := HR3.out.f 2
      have f3 := HR3.out.f 3
      go_wp2
      refine bodyPost_ret (results_cell_row rfl _ _ w.heap.size 54 #[.int .i64 1, .int .i64 n, .string ⟨#[]⟩, .slice none 0 0] (0, 0) _ rfl ?_ Tryd.underlying54 rfl (by kernel_rfl)) rfl ?_
      · exact HR3.out.put (cs := [.int .i64 1, .int .i64 n, .string ⟨#[]⟩, .slice none 0 0]) rfl
      exact HR3.out.done (leafP 1 n ⟨#[]⟩ (by decide) 0) (long_leaf 0 1 n ⟨#[]⟩ (by decide)) (by omega) (TopG.leaf _ _ _ _ _ _ _) (by rw [leafF, if_neg (by have := HNL.out; omega), if_pos hF2, hF3])
    · have hv0 : (v == 0) = false := by simpa using hv
      go_wp2_with fail
      refine (of_fun w0 _ br a len cap bs (p + 1) na nn nc ns HR2.out.rd HN2.out (by omega) hlen (by omega)).mono ?_
      rintro e w3 ⟨s, hs, rfl, hrd3, hg3, hF3⟩
      have HS := Lib.hid hs
      have HR3 := Lib.hid (HR2.out.step (TurnR.grown hg3) hrd3)
      have HV := Lib.hid (show ¬ pickF bs 3 p = 0 by rw [hF2]; exact hv)
      clear hrd3 hg3 hs hv0 hv
      have c0 := HR3.out.c0
      have c1 := HR3.out.c1
      have c2 := HR3.out.c2
      have c3 := HR3.out.c3
      have f0 := HR3.out.f 0
      have f1 := HR3.out.f 1
      have f2 := HR3.out.f 2
      have f3 := HR3.out.f 3
      go_wp2
      refine bodyPost_ret (results_cell_row rfl _ _ w.heap.size 54 #[.int .i64 2, .int .i64 0, .string s, .slice none 0 0] (0, 0) _ rfl ?_ Tryd.underlying54 rfl (by kernel_rfl)) rfl ?_
      · exact HR3.out.put (cs := [.int .i64 2, .int .i64 0, .string s, .slice none 0 0]) rfl
      exact HR3.out.done (leafP 2 0 s (by decide) 0) (long_leaf 0 2 0 s (HN.out.2 s HS.out)) (by omega) (TopG.leaf _ _ _ _ _ _ _) (by rw [leafF, if_neg (by have := HNL.out; omega), if_neg HV.out, hF3])

end Go.Proofs.YtccdmgncjlpebaaDoor
