
/-
  The reference draws an instruction (l22Some).
-/
import Derived.Test.YtdkafajmhgfkoaaDoorMv6
import Derived.Test.YtdkafajmhgfkoaaDoorRd
import Derived.Test.YtdkafajmhgfkoaaDoorMat
namespace Go.Proofs.YtdkafajmhgfkoaaDoor
open Go.RowKit

def TurnBr (br : Nat) (w w' : World) : Prop := Turned (fun k => k = br ∨ w.heap.size ≤ k) w w'
/-- While an instruction is drawn: the reader, the function's box, the result's, the instruction's. -/
structure SomeSt (w0 w : World) (br : Nat) (a : Option Addr) (len cap : Nat) (bs : List Int) (f : List Value) (x : Nat) (p : Nat) (wr : World) (op fa fb fc fn : Int) : Prop where
  rd : Rd w0 wr br a len cap bs p
  turned : TurnBr br w wr
  lt : br < w.heap.size
  fbox : wr.heap[w.heap.size]? = some (.cells f.toArray 32 (0, 0))
  res : wr.heap[w.heap.size + 1]? = some (.cells #[.int .i64 0, .int .i64 0, .int .i64 0, .int .i64 0, .int .i64 0] 41 (0, 0))
  mins : wr.heap[x]? = some (.cells #[.int .i64 op, .int .i64 fa, .int .i64 fb, .int .i64 fc, .int .i64 fn] 41 (0, 0))
  far : w.heap.size + 1 < x
section
variable {w0 w wr w' : World} {br : Nat} {a : Option Addr} {len cap : Nat} {bs : List Int} {f : List Value} {x p : Nat} {op fa fb fc fn : Int}
theorem SomeSt.xlt (h : SomeSt w0 w br a len cap bs f x p wr op fa fb fc fn) : x < wr.heap.size := (Array.getElem?_eq_some_iff.1 h.mins).1
theorem TurnBr.grown (h : TurnBr br w wr) (hg : wr.grownBy w' (some br)) : TurnBr br w w' := Turned.trans (S := fun k => k = br ∨ w.heap.size ≤ k) h (turned_of_grown hg (fun k hk => by cases hk; exact .inl rfl))
theorem TurnBr.alloc (h : TurnBr br w wr) (o : Obj) : TurnBr br w (wr.alloc o) := h.grown (World.grownBy_alloc wr o (some br))
theorem TurnBr.cells (h : TurnBr br w wr) {g : Nat} (hg : w.heap.size ≤ g) (vs : List Value) (o : Nat) : TurnBr br w (wr.setCells g o vs) := Turned.trans (S := fun k => k = br ∨ w.heap.size ≤ k) h ((turned_setCells (g := g) vs wr o).mono (fun k hk => .inr (by omega)))
theorem TurnBr.cell (h : TurnBr br w wr) {g : Nat} (hg : w.heap.size ≤ g) (v : Value) (o : Nat) : TurnBr br w (wr.setCell ⟨g, o, none⟩ v) := Turned.trans (S := fun k => k = br ∨ w.heap.size ≤ k) h ((turned_store wr g o v).mono (fun k hk => .inr (by omega)))
theorem TurnBr.below (h : TurnBr br w wr) (hb : Below wr.heap.size wr w') : TurnBr br w w' := Turned.trans (S := fun k => k = br ∨ w.heap.size ≤ k) h (turned_of_below hb (fun k h1 h2 => absurd h2 (by omega)))
theorem Rd.below' (h : Rd w0 wr br a len cap bs p) (hb : Below wr.heap.size wr w') : Rd w0 w' br a len cap bs p :=
  ⟨h.bytes, h.below.trans (hb.mono h.below.size), h.base, (hb.block _ h.lt).trans h.blk⟩
theorem Rd.cells (h : Rd w0 wr br a len cap bs p) {g : Nat} (hg : br < g) (vs : List Value) (o : Nat) : Rd w0 (wr.setCells g o vs) br a len cap bs p := by
  refine ⟨h.bytes, h.below.trans ((turned_setCells (g := g) vs wr o).below h.below.size (fun k hk => by have := h.base; omega)), h.base, ?_⟩
  rw [(turned_setCells (g := g) vs wr o).block br h.lt (fun e => by omega)]
  exact h.blk
theorem Rd.cell (h : Rd w0 wr br a len cap bs p) {g : Nat} (hg : br < g) (v : Value) (o : Nat) : Rd w0 (wr.setCell ⟨g, o, none⟩ v) br a len cap bs p := by
  refine ⟨h.bytes, h.below.trans ((turned_store wr g o v).below h.below.size (fun k hk => by have := h.base; omega)), h.base, ?_⟩
  rw [(turned_store wr g o v).block br h.lt (fun e => by omega)]
  exact h.blk
theorem SomeSt.grown {q : Nat} (h : SomeSt w0 w br a len cap bs f x p wr op fa fb fc fn) (hg : wr.grownBy w' (some br)) (hr : Rd w0 w' br a len cap bs q) : SomeSt w0 w br a len cap bs f x q w' op fa fb fc fn := by
  have hk : ∀ k, w.heap.size ≤ k → k < wr.heap.size → w'.heap[k]? = wr.heap[k]? := fun k h1 h2 => hg.block k h2 (fun e => by have := h.lt; cases e; omega)
  exact ⟨hr, h.turned.grown hg, h.lt, (hk _ (Nat.le_refl _) (Array.getElem?_eq_some_iff.1 h.fbox).1).trans h.fbox, (hk _ (by omega) (Array.getElem?_eq_some_iff.1 h.res).1).trans h.res, (hk _ (by have := h.far; omega) h.xlt).trans h.mins, h.far⟩
theorem SomeSt.below (h : SomeSt w0 w br a len cap bs f x p wr op fa fb fc fn) (hb : Below wr.heap.size wr w') : SomeSt w0 w br a len cap bs f x p w' op fa fb fc fn :=
  ⟨h.rd.below' hb, h.turned.below hb, h.lt, (hb.block _ (Array.getElem?_eq_some_iff.1 h.fbox).1).trans h.fbox, (hb.block _ (Array.getElem?_eq_some_iff.1 h.res).1).trans h.res, (hb.block _ h.xlt).trans h.mins, h.far⟩
theorem SomeSt.alloc (h : SomeSt w0 w br a len cap bs f x p wr op fa fb fc fn) (o : Obj) : SomeSt w0 w br a len cap bs f x p (wr.alloc o) op fa fb fc fn := h.below ((Below.refl _ _).alloc (Nat.le_refl _) _)
theorem SomeSt.store (h : SomeSt w0 w br a len cap bs f x p wr op fa fb fc fn) (i : Nat) (v : Value) {op' fa' fb' fc' fn' : Int} (he : (#[.int .i64 op, .int .i64 fa, .int .i64 fb, .int .i64 fc, .int .i64 fn] : Array Value).setIfInBounds i v = #[.int .i64 op', .int .i64 fa', .int .i64 fb', .int .i64 fc', .int .i64 fn']) :
    SomeSt w0 w br a len cap bs f x p (wr.setCell ⟨x, i, none⟩ v) op' fa' fb' fc' fn' := by
  have hf := h.far
  have hl := h.lt
  have hk : ∀ k, k ≠ x → (wr.setCell ⟨x, i, none⟩ v).heap[k]? = wr.heap[k]? := fun k hk => heap_setCell_other wr ⟨x, i, none⟩ k v hk
  refine ⟨h.rd.cell (by omega) v i, h.turned.cell (by omega) v i, h.lt, (hk _ (by omega)).trans h.fbox, (hk _ (by omega)).trans h.res, ?_, h.far⟩
  rw [heap_setCell_same wr x i _ _ v h.mins, he]
end

/-- An instruction was drawn. -/
def SomeDrawn (w0 w : World) (br : Nat) (a : Option Addr) (len cap : Nat) (bs : List Int) (p : Nat) (e : Ending) (w' : World) : Prop :=
  ∃ (op fa fb fc fn : Int) (q : Nat), e = .returned (.agg #[.int .i64 op, .int .i64 fa, .int .i64 fb, .int .i64 fc, .int .i64 fn]) ∧ Rd w0 w' br a len cap bs q ∧ q ≤ p + 8 ∧ TurnBr br w w'

theorem SomeSt.done {w0 w wr : World} {br : Nat} {a : Option Addr} {len cap : Nat} {bs : List Int} {f : List Value} {x p p0 : Nat} {op fa fb fc fn : Int} (h : SomeSt w0 w br a len cap bs f x p wr op fa fb fc fn) (hp : p ≤ p0 + 8) (c0 c1 c2 c3 c4 : Int) :
    (wr.setCells (w.heap.size + 1) 0 [.int .i64 c0, .int .i64 c1, .int .i64 c2, .int .i64 c3, .int .i64 c4]).heap[w.heap.size + 1]? = some (.cells #[.int .i64 c0, .int .i64 c1, .int .i64 c2, .int .i64 c3, .int .i64 c4] 41 (0, 0)) ∧
    SomeDrawn w0 w br a len cap bs p0 (.returned (.agg #[.int .i64 c0, .int .i64 c1, .int .i64 c2, .int .i64 c3, .int .i64 c4])) (wr.setCells (w.heap.size + 1) 0 [.int .i64 c0, .int .i64 c1, .int .i64 c2, .int .i64 c3, .int .i64 c4]) := by
  have hl := h.lt
  exact ⟨heap_setCells_mid (A := []) (B := [.int .i64 0, .int .i64 0, .int .i64 0, .int .i64 0, .int .i64 0]) (C := []) rfl rfl h.res, _, _, _, _, _, p, rfl, h.rd.cells (by omega) _ _, hp, h.turned.cells (by omega) _ _⟩

theorem word_size (op : Int) : (wordOf op).size ≤ 3 := by
  cases h : opB op with
  | true => exact (word_chr h).2.1
  | false => rw [wordOf, h]; exact (by decide : (⟨#[]⟩ : ByteArray).size ≤ 3)

set_option maxRecDepth 100000 in
set_option maxHeartbeats 8000000 in
theorem l22Some_any (w0 w : World) (br : Nat) (a : Option Addr) (len cap : Nat) (bs : List Int) (p : Nat) (hrd : Rd w0 w br a len cap bs p) (hlen : len ≤ 2000) (hp : p ≤ 1000000)
    (k n : Nat) (params slots : Int) (v : Value) (hn : n ≤ 1000) (hk : k ≤ 1000) (hpa : 0 ≤ params ∧ params ≤ 1000) (hsl : 0 ≤ slots ∧ slots ≤ 1000) :
    Calls Tryd.prog 51 #[.pointer (some ⟨br, 0, none⟩), .int .i64 (k : Int), .agg #[.int .i64 params, .int .i64 slots, v], .int .i64 (n : Int)] w fun e w' => SomeDrawn w0 w br a len cap bs p e w' := by
  have hb0 : Below w.heap.size w ((w.alloc (.cells #[.int .i64 params, .int .i64 slots, v] 32)).alloc (.cells #[.int .i64 0, .int .i64 0, .int .i64 0, .int .i64 0, .int .i64 0] 41)) := ((Below.refl _ _).alloc (Nat.le_refl _) _).alloc (by simp) _
  have hA := heap_alloc2_old w (.cells #[.int .i64 params, .int .i64 slots, v] 32) (.cells #[.int .i64 0, .int .i64 0, .int .i64 0, .int .i64 0, .int .i64 0] 41)
  have hB := heap_alloc2_new w (.cells #[.int .i64 params, .int .i64 slots, v] 32) (.cells #[.int .i64 0, .int .i64 0, .int .i64 0, .int .i64 0, .int .i64 0] 41)
  have HW := Lib.hid (And.intro (hrd.below' hb0) (And.intro hb0 (And.intro hA hB)))
  have HLT := Lib.hid hrd.lt
  clear hb0 hA hB hrd
  go_enter Tryd.func51, Tryd.ntmps51
  go_upto_region 1 with fail
  generalize (w.alloc (.cells #[.int .i64 params, .int .i64 slots, v] 32)).alloc (.cells #[.int .i64 0, .int .i64 0, .int .i64 0, .int .i64 0, .int .i64 0] 41) = W1 at HW ⊢
  have HN1 := Lib.hid (fun n1 (h : n1 = W1.heap.size) => show n1 ≠ br by have := HW.out.1.lt; omega)
  go_wp2_with fail
  refine (num_any w0 _ br a len cap bs p W1.heap.size 23 23 [1, 1, 2, 3, 4, 5, 8, 9, 10, 13, 21, 6, 7, 11, 12, 14, 15, 16, 17, 18, 19, 20, 22] (HW.out.1.alloc _) (lit_rd W1 [1, 1, 2, 3, 4, 5, 8, 9, 10, 13, 21, 6, 7, 11, 12, 14, 15, 16, 17, 18, 19, 20, 22] (by decide)) (HN1.out _ rfl) (by omega) hlen (by omega)).mono ?_
  rintro e w2 ⟨op, _, rfl, hrd2, hg2⟩
  have hst : SomeSt w0 w br a len cap bs [.int .i64 params, .int .i64 slots, v] w2.heap.size (p + 1) (w2.alloc (.cells #[.int .i64 op, .int .i64 0, .int .i64 0, .int .i64 0, .int .i64 0] 41)) op 0 0 0 0 := by
    have hb1 : Below W1.heap.size W1 (W1.alloc (.cells ([1, 1, 2, 3, 4, 5, 8, 9, 10, 13, 21, 6, 7, 11, 12, 14, 15, 16, 17, 18, 19, 20, 22].map (Value.int .i64)).toArray 3)) := (Below.refl _ _).alloc (Nat.le_refl _) _
    have hg2' : (W1.alloc (.cells ([1, 1, 2, 3, 4, 5, 8, 9, 10, 13, 21, 6, 7, 11, 12, 14, 15, 16, 17, 18, 19, 20, 22].map (Value.int .i64)).toArray 3)).grownBy w2 (some br) := hg2
    have hs1 := (Array.getElem?_eq_some_iff.1 HW.out.2.2.2).1
    have hl := HLT.out
    have hs2 := hg2'.size
    have hb12 := hb1.size
    have hk : ∀ k, w.heap.size ≤ k → k < W1.heap.size → w2.heap[k]? = W1.heap[k]? := fun k h1 h2 => (hg2'.block k (by omega) (fun e => by cases e; omega)).trans (hb1.block k h2)
    have hba : Below w2.heap.size w2 (w2.alloc (.cells #[.int .i64 op, .int .i64 0, .int .i64 0, .int .i64 0, .int .i64 0] 41)) := (Below.refl _ _).alloc (Nat.le_refl _) _
    refine ⟨hrd2.below' hba, ((TurnBr.below (w := w) (wr := W1) (TurnBr.below (Turned.refl _ _) HW.out.2.1) hb1).grown hg2').below hba, hl, ?_, ?_, heap_alloc_new w2 _, by omega⟩
    · rw [hba.block _ (by omega), hk _ (Nat.le_refl _) (by omega)]; exact HW.out.2.2.1
    · rw [hba.block _ (by omega), hk _ (by omega) (by omega)]; exact HW.out.2.2.2
  clear hrd2 hg2 HW HN1
  have HS := Lib.hid hst
  have d0 := cell_of_row _ _ 0 _ _ _ hst.mins
  simp only [List.getElem?_toArray, List.getElem?_cons_zero] at d0
  clear hst
  go_wp2_with fail
  generalize w2.alloc (.cells #[.int .i64 op, .int .i64 0, .int .i64 0, .int .i64 0, .int .i64 0] 41) = W3 at HS d0 ⊢
  obtain ⟨x, hx⟩ : ∃ x, x = w2.heap.size := ⟨_, rfl⟩
  rw [← hx] at HS d0 ⊢
  clear hx
  obtain ⟨wd, hwd⟩ : ∃ wd, wd = wordOf op := ⟨_, rfl⟩
  have HWO := Lib.hid (fun W => show Calls Tryd.prog 32 #[.int .i64 op] W fun e w' => ∃ s, e = .returned (.tuple #[.string s, .string wd]) ∧ Below W.heap.size W w' by rw [hwd]; exact l22Word_any op W)
  have hws : wd.size ≤ 3 := by rw [hwd]; exact word_size op
  clear hwd
  refine (HWO.out _).mono ?_
  rintro e w4 ⟨s, rfl, hb4⟩
  have HS4 := Lib.hid (HS.out.below hb4)
  clear HS d0 hb4 HWO
  go_wp2_with fail
  go_loopg [12] wd.size (fun G i wr => ∃ (j : Nat) (fa fb fc : Int) (q : Nat), j + G = wd.size ∧ i = .int .i64 j ∧ Hid (SomeSt w0 w br a len cap bs [.int .i64 params, .int .i64 slots, v] x q wr op fa fb fc 0 ∧ q ≤ p + 1 + 2 * j))
  case atStart => exact ⟨0, 0, 0, 0, _, by omega, rfl, Lib.hid ⟨HS4.out, Nat.le_refl _⟩⟩
  case round =>
    obtain ⟨j, fa, fb, fc, q, hj, rfl, HS5⟩ := hrel
    clear HS4
    by_cases hlt : j < wd.size
    · have hji : (j : Int) < (wd.size : Int) := by omega
      have hjx : ∀ W, (Instr.index 9 (.string wd) (.int .i64 (j : Int))).run Tryd.prog W = .ok (.int .u8 (chr wd j)) W := fun W => idx_str wd j hlt W
      have HQ := Lib.hid (show q ≤ 1000008 by have := HS5.out.2; omega)
      go_wp2_with fail
      refine (num_any w0 _ br a len cap bs q wr.heap.size 3 3 [4, 8, 2] (HS5.out.1.rd.alloc _) (lit_rd wr [4, 8, 2] (by decide)) (by have := HS5.out.1.rd.lt; omega) (by omega) hlen (by have := HQ.out; omega)).mono ?_
      rintro e w6 ⟨m1, hm1, rfl, hrd6, hg6⟩
      have hm1' : 1 ≤ m1 := by simp at hm1; omega
      have HS6 := Lib.hid ((HS5.out.1.alloc (.cells ([4, 8, 2].map (Value.int .i64)).toArray 3)).grown hg6 hrd6)
      clear hm1 hrd6 hg6
      go_wp2_with fail
      refine (pick_any w0 _ br a len cap bs (q + 1) m1 HS6.out.rd hm1' hlen (by have := HQ.out; omega)).mono ?_
      rintro e w7 ⟨m2, _, _, rfl, hrd7, hg7⟩
      have HS7 := Lib.hid (And.intro (HS6.out.grown hg7 hrd7) HS5.out.2)
      clear hrd7 hg7 HS6 HS5 hm1'
      cases hca : (chr wd j == 65) with
      | true =>
        have hrow := HS7.out.1.mins
        have e1 := cell_of_row _ _ 1 _ _ _ hrow
        have z1 := frozen_of_row _ _ 1 _ _ hrow
        simp only [List.getElem?_toArray, List.getElem?_cons_zero, List.getElem?_cons_succ] at e1
        have HS8 := Lib.hid (HS7.out.1.store 1 (.int .i64 m2) (fa := fa) (op := op) (op' := op) (fa' := m2) (fb' := fb) (fc' := fc) (fn' := 0) rfl)
        clear hrow
        go_wp2
        go_roundg (gk - 1)
        case measure => omega
        case rel => exact ⟨j + 1, _, _, _, _, by omega, by go_num, Lib.hid ⟨HS8.out, by have := HS7.out.2; omega⟩⟩
      | false =>
        cases hcb : (chr wd j == 66) with
        | true =>
          have hrow := HS7.out.1.mins
          have e2 := cell_of_row _ _ 2 _ _ _ hrow
          have z2 := frozen_of_row _ _ 2 _ _ hrow
          simp only [List.getElem?_toArray, List.getElem?_cons_zero, List.getElem?_cons_succ] at e2
          have HS8 := Lib.hid (HS7.out.1.store 2 (.int .i64 m2) (op' := op) (fa' := fa) (fb' := m2) (fc' := fc) (fn' := 0) rfl)
          clear hrow
          go_wp2
          go_roundg (gk - 1)
          case measure => omega
          case rel => exact ⟨j + 1, _, _, _, _, by omega, by go_num, Lib.hid ⟨HS8.out, by have := HS7.out.2; omega⟩⟩
        | false =>
          cases hcc : (chr wd j == 67) with
          | true =>
            have hrow := HS7.out.1.mins
            have e3 := cell_of_row _ _ 3 _ _ _ hrow
            have z3 := frozen_of_row _ _ 3 _ _ hrow
            simp only [List.getElem?_toArray, List.getElem?_cons_zero, List.getElem?_cons_succ] at e3
            have HS8 := Lib.hid (HS7.out.1.store 3 (.int .i64 m2) (op' := op) (fa' := fa) (fb' := fb) (fc' := m2) (fn' := 0) rfl)
            clear hrow
            go_wp2
            go_roundg (gk - 1)
            case measure => omega
            case rel => exact ⟨j + 1, _, _, _, _, by omega, by go_num, Lib.hid ⟨HS8.out, by have := HS7.out.2; omega⟩⟩
          | false =>
            have HS8 := Lib.hid HS7.out.1
            go_wp2
            go_roundg (gk - 1)
            case measure => omega
            case rel => exact ⟨j + 1, _, _, _, _, by omega, by go_num, Lib.hid ⟨HS8.out, by have := HS7.out.2; omega⟩⟩
    · obtain rfl : j = wd.size := by omega
      have HE := Lib.hid (And.intro HS5.out.1 (show q ≤ p + 7 by have := HS5.out.2; omega))
      clear HS5
      have HQ := Lib.hid (show q ≤ 1000008 by have := HE.out.2; omega)
      cases ho1 : (op == 1) with
      | true =>
        obtain rfl : op = 1 := by simpa using ho1
        clear ho1
        have rX := HE.out.1.mins
        have rR := HE.out.1.res
        have rF := HE.out.1.fbox
        have e0 := cell_of_row _ _ 0 _ _ _ rX
        have e1 := cell_of_row _ _ 1 _ _ _ rX
        have e2 := cell_of_row _ _ 2 _ _ _ rX
        have e3 := cell_of_row _ _ 3 _ _ _ rX
        have e4 := cell_of_row _ _ 4 _ _ _ rX
        have z4 := frozen_of_row _ _ 4 _ _ rX
        have r0 := cell_of_row _ _ 0 _ _ _ rR
        have y0 := frozen_of_row _ _ 0 _ _ rR
        have r1 := cell_of_row _ _ 1 _ _ _ rR
        have y1 := frozen_of_row _ _ 1 _ _ rR
        have r2 := cell_of_row _ _ 2 _ _ _ rR
        have y2 := frozen_of_row _ _ 2 _ _ rR
        have r3 := cell_of_row _ _ 3 _ _ _ rR
        have y3 := frozen_of_row _ _ 3 _ _ rR
        have r4 := cell_of_row _ _ 4 _ _ _ rR
        have y4 := frozen_of_row _ _ 4 _ _ rR
        have f0 := cell_of_row _ _ 0 _ _ _ rF
        have f1 := cell_of_row _ _ 1 _ _ _ rF
        simp only [List.getElem?_toArray, List.getElem?_cons_zero, List.getElem?_cons_succ] at e0 e1 e2 e3 e4 r0 r1 r2 r3 r4 f0 f1
        clear rX rR rF
        go_wp2_with fail
        refine (num_any w0 _ br a len cap bs q wr.heap.size 7 7 [0, 1, 2, 3, 15, 16, 255] (HE.out.1.rd.alloc _) (lit_rd wr [0, 1, 2, 3, 15, 16, 255] (by decide)) (by have := HE.out.1.rd.lt; omega) (by omega) hlen (by have := HQ.out; omega)).mono ?_
        rintro e w9 ⟨m9, _, rfl, hrd9, hg9⟩
        have H9 := Lib.hid (And.intro ((HE.out.1.alloc (.cells ([0, 1, 2, 3, 15, 16, 255].map (Value.int .i64)).toArray 3)).grown hg9 hrd9) (show q + 1 ≤ p + 8 by have := HE.out.2; omega))
        clear hrd9 hg9 e0 e1 e2 e3 e4 z4 r0 r1 r2 r3 r4 y0 y1 y2 y3 y4 f0 f1
        have rX := H9.out.1.mins
        have e4 := cell_of_row _ _ 4 _ _ _ rX
        have z4 := frozen_of_row _ _ 4 _ _ rX
        simp only [List.getElem?_toArray, List.getElem?_cons_zero, List.getElem?_cons_succ] at e4
        clear rX
        have H10 := Lib.hid (And.intro (H9.out.1.store 4 (.int .i64 m9) (op' := 1) (fa' := fa) (fb' := fb) (fc' := fc) (fn' := m9) rfl) H9.out.2)
        go_upto_region 30 with fail
        clear e4 z4
        generalize w9.setCell ⟨x, 4, none⟩ (.int .i64 m9) = W10 at H10 ⊢
        have rX := H10.out.1.mins
        have rR := H10.out.1.res
        have rF := H10.out.1.fbox
        have e0 := cell_of_row _ _ 0 _ _ _ rX
        have e1 := cell_of_row _ _ 1 _ _ _ rX
        have e2 := cell_of_row _ _ 2 _ _ _ rX
        have e3 := cell_of_row _ _ 3 _ _ _ rX
        have e4 := cell_of_row _ _ 4 _ _ _ rX
        have z4 := frozen_of_row _ _ 4 _ _ rX
        have r0 := cell_of_row _ _ 0 _ _ _ rR
        have y0 := frozen_of_row _ _ 0 _ _ rR
        have r1 := cell_of_row _ _ 1 _ _ _ rR
        have y1 := frozen_of_row _ _ 1 _ _ rR
        have r2 := cell_of_row _ _ 2 _ _ _ rR
        have y2 := frozen_of_row _ _ 2 _ _ rR
        have r3 := cell_of_row _ _ 3 _ _ _ rR
        have y3 := frozen_of_row _ _ 3 _ _ rR
        have r4 := cell_of_row _ _ 4 _ _ _ rR
        have y4 := frozen_of_row _ _ 4 _ _ rR
        have f0 := cell_of_row _ _ 0 _ _ _ rF
        have f1 := cell_of_row _ _ 1 _ _ _ rF
        simp only [List.getElem?_toArray, List.getElem?_cons_zero, List.getElem?_cons_succ] at e0 e1 e2 e3 e4 r0 r1 r2 r3 r4 f0 f1
        clear rX rR rF
        go_wp2
        obtain ⟨hrow, hD⟩ := H10.out.1.done (p0 := p) H10.out.2 1 fa fb fc m9
        refine bodyPost_ret (results_cell_row rfl _ _ (w.heap.size + 1) 41 _ (0, 0) _ rfl hrow Tryd.underlying41 rfl (by kernel_rfl)) rfl ?_
        exact hD
      | false =>
        cases ho14 : (op == 14) with
        | true =>
          obtain rfl : op = 14 := by simpa using ho14
          clear ho14 ho1
          have rX := HE.out.1.mins
          have rR := HE.out.1.res
          have rF := HE.out.1.fbox
          have e0 := cell_of_row _ _ 0 _ _ _ rX
          have e1 := cell_of_row _ _ 1 _ _ _ rX
          have e2 := cell_of_row _ _ 2 _ _ _ rX
          have e3 := cell_of_row _ _ 3 _ _ _ rX
          have e4 := cell_of_row _ _ 4 _ _ _ rX
          have z4 := frozen_of_row _ _ 4 _ _ rX
          have r0 := cell_of_row _ _ 0 _ _ _ rR
          have y0 := frozen_of_row _ _ 0 _ _ rR
          have r1 := cell_of_row _ _ 1 _ _ _ rR
          have y1 := frozen_of_row _ _ 1 _ _ rR
          have r2 := cell_of_row _ _ 2 _ _ _ rR
          have y2 := frozen_of_row _ _ 2 _ _ rR
          have r3 := cell_of_row _ _ 3 _ _ _ rR
          have y3 := frozen_of_row _ _ 3 _ _ rR
          have r4 := cell_of_row _ _ 4 _ _ _ rR
          have y4 := frozen_of_row _ _ 4 _ _ rR
          have f0 := cell_of_row _ _ 0 _ _ _ rF
          have f1 := cell_of_row _ _ 1 _ _ _ rF
          simp only [List.getElem?_toArray, List.getElem?_cons_zero, List.getElem?_cons_succ] at e0 e1 e2 e3 e4 r0 r1 r2 r3 r4 f0 f1
          clear rX rR rF
          obtain h0 | h0 : (k : Int) = 0 ∨ 0 < (k : Int) := by omega
          · obtain rfl : k = 0 := by omega
            clear h0
            go_wp2
            obtain ⟨hrow, hD⟩ := HE.out.1.done (p0 := p) (by have := HE.out.2; omega) 13 fa 0 0 0
            refine bodyPost_ret (results_cell_row rfl _ _ (w.heap.size + 1) 41 _ (0, 0) _ rfl hrow Tryd.underlying41 rfl (by kernel_rfl)) rfl ?_
            exact hD
          · have h1 : ((k : Int) == 0) = false := by rw [beq_eq_false_iff_ne]; omega
            go_wp2_with fail
            refine (pick_any w0 _ br a len cap bs q ((k : Int)) HE.out.1.rd (by omega) hlen (by have := HQ.out; omega)).mono ?_
            rintro e w9 ⟨m9, _, _, rfl, hrd9, hg9⟩
            have H9 := Lib.hid (And.intro (HE.out.1.grown hg9 hrd9) (show q + 1 ≤ p + 8 by have := HE.out.2; omega))
            clear hrd9 hg9 e0 e1 e2 e3 e4 z4 r0 r1 r2 r3 r4 y0 y1 y2 y3 y4 f0 f1
            have rX := H9.out.1.mins
            have e4 := cell_of_row _ _ 4 _ _ _ rX
            have z4 := frozen_of_row _ _ 4 _ _ rX
            simp only [List.getElem?_toArray, List.getElem?_cons_zero, List.getElem?_cons_succ] at e4
            clear rX
            have H10 := Lib.hid (And.intro (H9.out.1.store 4 (.int .i64 m9) (op' := 14) (fa' := fa) (fb' := fb) (fc' := fc) (fn' := m9) rfl) H9.out.2)
            go_upto_region 32 with fail
            clear e4 z4
            generalize w9.setCell ⟨x, 4, none⟩ (.int .i64 m9) = W10 at H10 ⊢
            have rX := H10.out.1.mins
            have rR := H10.out.1.res
            have rF := H10.out.1.fbox
            have e0 := cell_of_row _ _ 0 _ _ _ rX
            have e1 := cell_of_row _ _ 1 _ _ _ rX
            have e2 := cell_of_row _ _ 2 _ _ _ rX
            have e3 := cell_of_row _ _ 3 _ _ _ rX
            have e4 := cell_of_row _ _ 4 _ _ _ rX
            have z4 := frozen_of_row _ _ 4 _ _ rX
            have r0 := cell_of_row _ _ 0 _ _ _ rR
            have y0 := frozen_of_row _ _ 0 _ _ rR
            have r1 := cell_of_row _ _ 1 _ _ _ rR
            have y1 := frozen_of_row _ _ 1 _ _ rR
            have r2 := cell_of_row _ _ 2 _ _ _ rR
            have y2 := frozen_of_row _ _ 2 _ _ rR
            have r3 := cell_of_row _ _ 3 _ _ _ rR
            have y3 := frozen_of_row _ _ 3 _ _ rR
            have r4 := cell_of_row _ _ 4 _ _ _ rR
            have y4 := frozen_of_row _ _ 4 _ _ rR
            have f0 := cell_of_row _ _ 0 _ _ _ rF
            have f1 := cell_of_row _ _ 1 _ _ _ rF
            simp only [List.getElem?_toArray, List.getElem?_cons_zero, List.getElem?_cons_succ] at e0 e1 e2 e3 e4 r0 r1 r2 r3 r4 f0 f1
            clear rX rR rF
            go_wp2
            obtain ⟨hrow, hD⟩ := H10.out.1.done (p0 := p) H10.out.2 14 fa fb fc m9
            refine bodyPost_ret (results_cell_row rfl _ _ (w.heap.size + 1) 41 _ (0, 0) _ rfl hrow Tryd.underlying41 rfl (by kernel_rfl)) rfl ?_
            exact hD
        | false =>
          cases ho15 : (op == 15) with
          | true =>
            obtain rfl : op = 15 := by simpa using ho15
            clear ho15 ho1 ho14
            have rX := HE.out.1.mins
            have rR := HE.out.1.res
            have rF := HE.out.1.fbox
            have e0 := cell_of_row _ _ 0 _ _ _ rX
            have e1 := cell_of_row _ _ 1 _ _ _ rX
            have e2 := cell_of_row _ _ 2 _ _ _ rX
            have e3 := cell_of_row _ _ 3 _ _ _ rX
            have e4 := cell_of_row _ _ 4 _ _ _ rX
            have z4 := frozen_of_row _ _ 4 _ _ rX
            have r0 := cell_of_row _ _ 0 _ _ _ rR
            have y0 := frozen_of_row _ _ 0 _ _ rR
            have r1 := cell_of_row _ _ 1 _ _ _ rR
            have y1 := frozen_of_row _ _ 1 _ _ rR
            have r2 := cell_of_row _ _ 2 _ _ _ rR
            have y2 := frozen_of_row _ _ 2 _ _ rR
            have r3 := cell_of_row _ _ 3 _ _ _ rR
            have y3 := frozen_of_row _ _ 3 _ _ rR
            have r4 := cell_of_row _ _ 4 _ _ _ rR
            have y4 := frozen_of_row _ _ 4 _ _ rR
            have f0 := cell_of_row _ _ 0 _ _ _ rF
            have f1 := cell_of_row _ _ 1 _ _ _ rF
            simp only [List.getElem?_toArray, List.getElem?_cons_zero, List.getElem?_cons_succ] at e0 e1 e2 e3 e4 r0 r1 r2 r3 r4 f0 f1
            clear rX rR rF
            obtain h0 | h0 : slots = 0 ∨ 0 < slots := by omega
            · subst h0
              go_wp2
              obtain ⟨hrow, hD⟩ := HE.out.1.done (p0 := p) (by have := HE.out.2; omega) 13 fa 0 0 0
              refine bodyPost_ret (results_cell_row rfl _ _ (w.heap.size + 1) 41 _ (0, 0) _ rfl hrow Tryd.underlying41 rfl (by kernel_rfl)) rfl ?_
              exact hD
            · have h1 : (slots == 0) = false := by rw [beq_eq_false_iff_ne]; omega
              go_wp2_with fail
              refine (pick_any w0 _ br a len cap bs q (slots) HE.out.1.rd (by omega) hlen (by have := HQ.out; omega)).mono ?_
              rintro e w9 ⟨m9, _, _, rfl, hrd9, hg9⟩
              have H9 := Lib.hid (And.intro (HE.out.1.grown hg9 hrd9) (show q + 1 ≤ p + 8 by have := HE.out.2; omega))
              clear hrd9 hg9 e0 e1 e2 e3 e4 z4 r0 r1 r2 r3 r4 y0 y1 y2 y3 y4 f0 f1
              have rX := H9.out.1.mins
              have e4 := cell_of_row _ _ 4 _ _ _ rX
              have z4 := frozen_of_row _ _ 4 _ _ rX
              simp only [List.getElem?_toArray, List.getElem?_cons_zero, List.getElem?_cons_succ] at e4
              clear rX
              have H10 := Lib.hid (And.intro (H9.out.1.store 4 (.int .i64 m9) (op' := 15) (fa' := fa) (fb' := fb) (fc' := fc) (fn' := m9) rfl) H9.out.2)
              go_upto_region 32 with fail
              clear e4 z4
              generalize w9.setCell ⟨x, 4, none⟩ (.int .i64 m9) = W10 at H10 ⊢
              have rX := H10.out.1.mins
              have rR := H10.out.1.res
              have rF := H10.out.1.fbox
              have e0 := cell_of_row _ _ 0 _ _ _ rX
              have e1 := cell_of_row _ _ 1 _ _ _ rX
              have e2 := cell_of_row _ _ 2 _ _ _ rX
              have e3 := cell_of_row _ _ 3 _ _ _ rX
              have e4 := cell_of_row _ _ 4 _ _ _ rX
              have z4 := frozen_of_row _ _ 4 _ _ rX
              have r0 := cell_of_row _ _ 0 _ _ _ rR
              have y0 := frozen_of_row _ _ 0 _ _ rR
              have r1 := cell_of_row _ _ 1 _ _ _ rR
              have y1 := frozen_of_row _ _ 1 _ _ rR
              have r2 := cell_of_row _ _ 2 _ _ _ rR
              have y2 := frozen_of_row _ _ 2 _ _ rR
              have r3 := cell_of_row _ _ 3 _ _ _ rR
              have y3 := frozen_of_row _ _ 3 _ _ rR
              have r4 := cell_of_row _ _ 4 _ _ _ rR
              have y4 := frozen_of_row _ _ 4 _ _ rR
              have f0 := cell_of_row _ _ 0 _ _ _ rF
              have f1 := cell_of_row _ _ 1 _ _ _ rF
              simp only [List.getElem?_toArray, List.getElem?_cons_zero, List.getElem?_cons_succ] at e0 e1 e2 e3 e4 r0 r1 r2 r3 r4 f0 f1
              clear rX rR rF
              go_wp2
              obtain ⟨hrow, hD⟩ := H10.out.1.done (p0 := p) H10.out.2 15 fa fb fc m9
              refine bodyPost_ret (results_cell_row rfl _ _ (w.heap.size + 1) 41 _ (0, 0) _ rfl hrow Tryd.underlying41 rfl (by kernel_rfl)) rfl ?_
              exact hD
          | false =>
            cases ho16 : (op == 16) with
            | true =>
              obtain rfl : op = 16 := by simpa using ho16
              clear ho16 ho1 ho14 ho15
              have rX := HE.out.1.mins
              have rR := HE.out.1.res
              have rF := HE.out.1.fbox
              have e0 := cell_of_row _ _ 0 _ _ _ rX
              have e1 := cell_of_row _ _ 1 _ _ _ rX
              have e2 := cell_of_row _ _ 2 _ _ _ rX
              have e3 := cell_of_row _ _ 3 _ _ _ rX
              have e4 := cell_of_row _ _ 4 _ _ _ rX
              have z4 := frozen_of_row _ _ 4 _ _ rX
              have r0 := cell_of_row _ _ 0 _ _ _ rR
              have y0 := frozen_of_row _ _ 0 _ _ rR
              have r1 := cell_of_row _ _ 1 _ _ _ rR
              have y1 := frozen_of_row _ _ 1 _ _ rR
              have r2 := cell_of_row _ _ 2 _ _ _ rR
              have y2 := frozen_of_row _ _ 2 _ _ rR
              have r3 := cell_of_row _ _ 3 _ _ _ rR
              have y3 := frozen_of_row _ _ 3 _ _ rR
              have r4 := cell_of_row _ _ 4 _ _ _ rR
              have y4 := frozen_of_row _ _ 4 _ _ rR
              have f0 := cell_of_row _ _ 0 _ _ _ rF
              have f1 := cell_of_row _ _ 1 _ _ _ rF
              simp only [List.getElem?_toArray, List.getElem?_cons_zero, List.getElem?_cons_succ] at e0 e1 e2 e3 e4 r0 r1 r2 r3 r4 f0 f1
              clear rX rR rF
              obtain h0 | h0 : slots = 0 ∨ 0 < slots := by omega
              · subst h0
                go_wp2
                obtain ⟨hrow, hD⟩ := HE.out.1.done (p0 := p) (by have := HE.out.2; omega) 13 fa 0 0 0
                refine bodyPost_ret (results_cell_row rfl _ _ (w.heap.size + 1) 41 _ (0, 0) _ rfl hrow Tryd.underlying41 rfl (by kernel_rfl)) rfl ?_
                exact hD
              · have h1 : (slots == 0) = false := by rw [beq_eq_false_iff_ne]; omega
                go_wp2_with fail
                refine (pick_any w0 _ br a len cap bs q (slots) HE.out.1.rd (by omega) hlen (by have := HQ.out; omega)).mono ?_
                rintro e w9 ⟨m9, _, _, rfl, hrd9, hg9⟩
                have H9 := Lib.hid (And.intro (HE.out.1.grown hg9 hrd9) (show q + 1 ≤ p + 8 by have := HE.out.2; omega))
                clear hrd9 hg9 e0 e1 e2 e3 e4 z4 r0 r1 r2 r3 r4 y0 y1 y2 y3 y4 f0 f1
                have rX := H9.out.1.mins
                have e4 := cell_of_row _ _ 4 _ _ _ rX
                have z4 := frozen_of_row _ _ 4 _ _ rX
                simp only [List.getElem?_toArray, List.getElem?_cons_zero, List.getElem?_cons_succ] at e4
                clear rX
                have H10 := Lib.hid (And.intro (H9.out.1.store 4 (.int .i64 m9) (op' := 16) (fa' := fa) (fb' := fb) (fc' := fc) (fn' := m9) rfl) H9.out.2)
                go_upto_region 32 with fail
                clear e4 z4
                generalize w9.setCell ⟨x, 4, none⟩ (.int .i64 m9) = W10 at H10 ⊢
                have rX := H10.out.1.mins
                have rR := H10.out.1.res
                have rF := H10.out.1.fbox
                have e0 := cell_of_row _ _ 0 _ _ _ rX
                have e1 := cell_of_row _ _ 1 _ _ _ rX
                have e2 := cell_of_row _ _ 2 _ _ _ rX
                have e3 := cell_of_row _ _ 3 _ _ _ rX
                have e4 := cell_of_row _ _ 4 _ _ _ rX
                have z4 := frozen_of_row _ _ 4 _ _ rX
                have r0 := cell_of_row _ _ 0 _ _ _ rR
                have y0 := frozen_of_row _ _ 0 _ _ rR
                have r1 := cell_of_row _ _ 1 _ _ _ rR
                have y1 := frozen_of_row _ _ 1 _ _ rR
                have r2 := cell_of_row _ _ 2 _ _ _ rR
                have y2 := frozen_of_row _ _ 2 _ _ rR
                have r3 := cell_of_row _ _ 3 _ _ _ rR
                have y3 := frozen_of_row _ _ 3 _ _ rR
                have r4 := cell_of_row _ _ 4 _ _ _ rR
                have y4 := frozen_of_row _ _ 4 _ _ rR
                have f0 := cell_of_row _ _ 0 _ _ _ rF
                have f1 := cell_of_row _ _ 1 _ _ _ rF
                simp only [List.getElem?_toArray, List.getElem?_cons_zero, List.getElem?_cons_succ] at e0 e1 e2 e3 e4 r0 r1 r2 r3 r4 f0 f1
                clear rX rR rF
                go_wp2
                obtain ⟨hrow, hD⟩ := H10.out.1.done (p0 := p) H10.out.2 16 fa fb fc m9
                refine bodyPost_ret (results_cell_row rfl _ _ (w.heap.size + 1) 41 _ (0, 0) _ rfl hrow Tryd.underlying41 rfl (by kernel_rfl)) rfl ?_
                exact hD
            | false =>
              cases ho17 : (op == 17) with
              | true =>
                obtain rfl : op = 17 := by simpa using ho17
                clear ho17 ho1 ho14 ho15 ho16
                have rX := HE.out.1.mins
                have rR := HE.out.1.res
                have rF := HE.out.1.fbox
                have e0 := cell_of_row _ _ 0 _ _ _ rX
                have e1 := cell_of_row _ _ 1 _ _ _ rX
                have e2 := cell_of_row _ _ 2 _ _ _ rX
                have e3 := cell_of_row _ _ 3 _ _ _ rX
                have e4 := cell_of_row _ _ 4 _ _ _ rX
                have z4 := frozen_of_row _ _ 4 _ _ rX
                have r0 := cell_of_row _ _ 0 _ _ _ rR
                have y0 := frozen_of_row _ _ 0 _ _ rR
                have r1 := cell_of_row _ _ 1 _ _ _ rR
                have y1 := frozen_of_row _ _ 1 _ _ rR
                have r2 := cell_of_row _ _ 2 _ _ _ rR
                have y2 := frozen_of_row _ _ 2 _ _ rR
                have r3 := cell_of_row _ _ 3 _ _ _ rR
                have y3 := frozen_of_row _ _ 3 _ _ rR
                have r4 := cell_of_row _ _ 4 _ _ _ rR
                have y4 := frozen_of_row _ _ 4 _ _ rR
                have f0 := cell_of_row _ _ 0 _ _ _ rF
                have f1 := cell_of_row _ _ 1 _ _ _ rF
                simp only [List.getElem?_toArray, List.getElem?_cons_zero, List.getElem?_cons_succ] at e0 e1 e2 e3 e4 r0 r1 r2 r3 r4 f0 f1
                clear rX rR rF
                go_wp2_with fail
                refine (pick_any w0 _ br a len cap bs q (3) HE.out.1.rd (by omega) hlen (by have := HQ.out; omega)).mono ?_
                rintro e w9 ⟨m9, _, _, rfl, hrd9, hg9⟩
                have H9 := Lib.hid (And.intro (HE.out.1.grown hg9 hrd9) (show q + 1 ≤ p + 8 by have := HE.out.2; omega))
                clear hrd9 hg9 e0 e1 e2 e3 e4 z4 r0 r1 r2 r3 r4 y0 y1 y2 y3 y4 f0 f1
                have rX := H9.out.1.mins
                have e4 := cell_of_row _ _ 4 _ _ _ rX
                have z4 := frozen_of_row _ _ 4 _ _ rX
                simp only [List.getElem?_toArray, List.getElem?_cons_zero, List.getElem?_cons_succ] at e4
                clear rX
                have H10 := Lib.hid (And.intro (H9.out.1.store 4 (.int .i64 m9) (op' := 17) (fa' := fa) (fb' := fb) (fc' := fc) (fn' := m9) rfl) H9.out.2)
                go_upto_region 32 with fail
                clear e4 z4
                generalize w9.setCell ⟨x, 4, none⟩ (.int .i64 m9) = W10 at H10 ⊢
                have rX := H10.out.1.mins
                have rR := H10.out.1.res
                have rF := H10.out.1.fbox
                have e0 := cell_of_row _ _ 0 _ _ _ rX
                have e1 := cell_of_row _ _ 1 _ _ _ rX
                have e2 := cell_of_row _ _ 2 _ _ _ rX
                have e3 := cell_of_row _ _ 3 _ _ _ rX
                have e4 := cell_of_row _ _ 4 _ _ _ rX
                have z4 := frozen_of_row _ _ 4 _ _ rX
                have r0 := cell_of_row _ _ 0 _ _ _ rR
                have y0 := frozen_of_row _ _ 0 _ _ rR
                have r1 := cell_of_row _ _ 1 _ _ _ rR
                have y1 := frozen_of_row _ _ 1 _ _ rR
                have r2 := cell_of_row _ _ 2 _ _ _ rR
                have y2 := frozen_of_row _ _ 2 _ _ rR
                have r3 := cell_of_row _ _ 3 _ _ _ rR
                have y3 := frozen_of_row _ _ 3 _ _ rR
                have r4 := cell_of_row _ _ 4 _ _ _ rR
                have y4 := frozen_of_row _ _ 4 _ _ rR
                have f0 := cell_of_row _ _ 0 _ _ _ rF
                have f1 := cell_of_row _ _ 1 _ _ _ rF
                simp only [List.getElem?_toArray, List.getElem?_cons_zero, List.getElem?_cons_succ] at e0 e1 e2 e3 e4 r0 r1 r2 r3 r4 f0 f1
                clear rX rR rF
                go_wp2
                obtain ⟨hrow, hD⟩ := H10.out.1.done (p0 := p) H10.out.2 17 fa fb fc m9
                refine bodyPost_ret (results_cell_row rfl _ _ (w.heap.size + 1) 41 _ (0, 0) _ rfl hrow Tryd.underlying41 rfl (by kernel_rfl)) rfl ?_
                exact hD
              | false =>
                cases ho18 : (op == 18) with
                | true =>
                  obtain rfl : op = 18 := by simpa using ho18
                  clear ho18 ho1 ho14 ho15 ho16 ho17
                  have rX := HE.out.1.mins
                  have rR := HE.out.1.res
                  have rF := HE.out.1.fbox
                  have e0 := cell_of_row _ _ 0 _ _ _ rX
                  have e1 := cell_of_row _ _ 1 _ _ _ rX
                  have e2 := cell_of_row _ _ 2 _ _ _ rX
                  have e3 := cell_of_row _ _ 3 _ _ _ rX
                  have e4 := cell_of_row _ _ 4 _ _ _ rX
                  have z4 := frozen_of_row _ _ 4 _ _ rX
                  have r0 := cell_of_row _ _ 0 _ _ _ rR
                  have y0 := frozen_of_row _ _ 0 _ _ rR
                  have r1 := cell_of_row _ _ 1 _ _ _ rR
                  have y1 := frozen_of_row _ _ 1 _ _ rR
                  have r2 := cell_of_row _ _ 2 _ _ _ rR
                  have y2 := frozen_of_row _ _ 2 _ _ rR
                  have r3 := cell_of_row _ _ 3 _ _ _ rR
                  have y3 := frozen_of_row _ _ 3 _ _ rR
                  have r4 := cell_of_row _ _ 4 _ _ _ rR
                  have y4 := frozen_of_row _ _ 4 _ _ rR
                  have f0 := cell_of_row _ _ 0 _ _ _ rF
                  have f1 := cell_of_row _ _ 1 _ _ _ rF
                  simp only [List.getElem?_toArray, List.getElem?_cons_zero, List.getElem?_cons_succ] at e0 e1 e2 e3 e4 r0 r1 r2 r3 r4 f0 f1
                  clear rX rR rF
                  obtain h0 | h0 : params = 0 ∨ 0 < params := by omega
                  · subst h0
                    go_wp2
                    obtain ⟨hrow, hD⟩ := HE.out.1.done (p0 := p) (by have := HE.out.2; omega) 13 fa 0 0 0
                    refine bodyPost_ret (results_cell_row rfl _ _ (w.heap.size + 1) 41 _ (0, 0) _ rfl hrow Tryd.underlying41 rfl (by kernel_rfl)) rfl ?_
                    exact hD
                  · have h1 : (params == 0) = false := by rw [beq_eq_false_iff_ne]; omega
                    go_wp2_with fail
                    refine (pick_any w0 _ br a len cap bs q (params) HE.out.1.rd (by omega) hlen (by have := HQ.out; omega)).mono ?_
                    rintro e w9 ⟨m9, _, _, rfl, hrd9, hg9⟩
                    have H9 := Lib.hid (And.intro (HE.out.1.grown hg9 hrd9) (show q + 1 ≤ p + 8 by have := HE.out.2; omega))
                    clear hrd9 hg9 e0 e1 e2 e3 e4 z4 r0 r1 r2 r3 r4 y0 y1 y2 y3 y4 f0 f1
                    have rX := H9.out.1.mins
                    have e4 := cell_of_row _ _ 4 _ _ _ rX
                    have z4 := frozen_of_row _ _ 4 _ _ rX
                    simp only [List.getElem?_toArray, List.getElem?_cons_zero, List.getElem?_cons_succ] at e4
                    clear rX
                    have H10 := Lib.hid (And.intro (H9.out.1.store 4 (.int .i64 m9) (op' := 18) (fa' := fa) (fb' := fb) (fc' := fc) (fn' := m9) rfl) H9.out.2)
                    go_upto_region 32 with fail
                    clear e4 z4
                    generalize w9.setCell ⟨x, 4, none⟩ (.int .i64 m9) = W10 at H10 ⊢
                    have rX := H10.out.1.mins
                    have rR := H10.out.1.res
                    have rF := H10.out.1.fbox
                    have e0 := cell_of_row _ _ 0 _ _ _ rX
                    have e1 := cell_of_row _ _ 1 _ _ _ rX
                    have e2 := cell_of_row _ _ 2 _ _ _ rX
                    have e3 := cell_of_row _ _ 3 _ _ _ rX
                    have e4 := cell_of_row _ _ 4 _ _ _ rX
                    have z4 := frozen_of_row _ _ 4 _ _ rX
                    have r0 := cell_of_row _ _ 0 _ _ _ rR
                    have y0 := frozen_of_row _ _ 0 _ _ rR
                    have r1 := cell_of_row _ _ 1 _ _ _ rR
                    have y1 := frozen_of_row _ _ 1 _ _ rR
                    have r2 := cell_of_row _ _ 2 _ _ _ rR
                    have y2 := frozen_of_row _ _ 2 _ _ rR
                    have r3 := cell_of_row _ _ 3 _ _ _ rR
                    have y3 := frozen_of_row _ _ 3 _ _ rR
                    have r4 := cell_of_row _ _ 4 _ _ _ rR
                    have y4 := frozen_of_row _ _ 4 _ _ rR
                    have f0 := cell_of_row _ _ 0 _ _ _ rF
                    have f1 := cell_of_row _ _ 1 _ _ _ rF
                    simp only [List.getElem?_toArray, List.getElem?_cons_zero, List.getElem?_cons_succ] at e0 e1 e2 e3 e4 r0 r1 r2 r3 r4 f0 f1
                    clear rX rR rF
                    go_wp2
                    obtain ⟨hrow, hD⟩ := H10.out.1.done (p0 := p) H10.out.2 18 fa fb fc m9
                    refine bodyPost_ret (results_cell_row rfl _ _ (w.heap.size + 1) 41 _ (0, 0) _ rfl hrow Tryd.underlying41 rfl (by kernel_rfl)) rfl ?_
                    exact hD
                | false =>
                  cases ho20 : (op == 20) with
                  | true =>
                    obtain rfl : op = 20 := by simpa using ho20
                    clear ho20 ho1 ho14 ho15 ho16 ho17 ho18
                    have rX := HE.out.1.mins
                    have rR := HE.out.1.res
                    have rF := HE.out.1.fbox
                    have e0 := cell_of_row _ _ 0 _ _ _ rX
                    have e1 := cell_of_row _ _ 1 _ _ _ rX
                    have e2 := cell_of_row _ _ 2 _ _ _ rX
                    have e3 := cell_of_row _ _ 3 _ _ _ rX
                    have e4 := cell_of_row _ _ 4 _ _ _ rX
                    have z4 := frozen_of_row _ _ 4 _ _ rX
                    have r0 := cell_of_row _ _ 0 _ _ _ rR
                    have y0 := frozen_of_row _ _ 0 _ _ rR
                    have r1 := cell_of_row _ _ 1 _ _ _ rR
                    have y1 := frozen_of_row _ _ 1 _ _ rR
                    have r2 := cell_of_row _ _ 2 _ _ _ rR
                    have y2 := frozen_of_row _ _ 2 _ _ rR
                    have r3 := cell_of_row _ _ 3 _ _ _ rR
                    have y3 := frozen_of_row _ _ 3 _ _ rR
                    have r4 := cell_of_row _ _ 4 _ _ _ rR
                    have y4 := frozen_of_row _ _ 4 _ _ rR
                    have f0 := cell_of_row _ _ 0 _ _ _ rF
                    have f1 := cell_of_row _ _ 1 _ _ _ rF
                    simp only [List.getElem?_toArray, List.getElem?_cons_zero, List.getElem?_cons_succ] at e0 e1 e2 e3 e4 r0 r1 r2 r3 r4 f0 f1
                    clear rX rR rF
                    obtain h0 | h0 : (n : Int) = 0 ∨ 0 < (n : Int) := by omega
                    · obtain rfl : n = 0 := by omega
                      clear h0
                      go_wp2
                      obtain ⟨hrow, hD⟩ := HE.out.1.done (p0 := p) (by have := HE.out.2; omega) 20 fa fb fc 0
                      refine bodyPost_ret (results_cell_row rfl _ _ (w.heap.size + 1) 41 _ (0, 0) _ rfl hrow Tryd.underlying41 rfl (by kernel_rfl)) rfl ?_
                      exact hD
                    · have h1 : ((n : Int) == 0) = false := by rw [beq_eq_false_iff_ne]; omega
                      go_wp2_with fail
                      refine (pick_any w0 _ br a len cap bs q ((n : Int)) HE.out.1.rd (by omega) hlen (by have := HQ.out; omega)).mono ?_
                      rintro e w9 ⟨m9, _, _, rfl, hrd9, hg9⟩
                      have H9 := Lib.hid (And.intro (HE.out.1.grown hg9 hrd9) (show q + 1 ≤ p + 8 by have := HE.out.2; omega))
                      clear hrd9 hg9 e0 e1 e2 e3 e4 z4 r0 r1 r2 r3 r4 y0 y1 y2 y3 y4 f0 f1
                      have rX := H9.out.1.mins
                      have e4 := cell_of_row _ _ 4 _ _ _ rX
                      have z4 := frozen_of_row _ _ 4 _ _ rX
                      simp only [List.getElem?_toArray, List.getElem?_cons_zero, List.getElem?_cons_succ] at e4
                      clear rX
                      have H10 := Lib.hid (And.intro (H9.out.1.store 4 (.int .i64 m9) (op' := 20) (fa' := fa) (fb' := fb) (fc' := fc) (fn' := m9) rfl) H9.out.2)
                      go_upto_region 32 with fail
                      clear e4 z4
                      generalize w9.setCell ⟨x, 4, none⟩ (.int .i64 m9) = W10 at H10 ⊢
                      have rX := H10.out.1.mins
                      have rR := H10.out.1.res
                      have rF := H10.out.1.fbox
                      have e0 := cell_of_row _ _ 0 _ _ _ rX
                      have e1 := cell_of_row _ _ 1 _ _ _ rX
                      have e2 := cell_of_row _ _ 2 _ _ _ rX
                      have e3 := cell_of_row _ _ 3 _ _ _ rX
                      have e4 := cell_of_row _ _ 4 _ _ _ rX
                      have z4 := frozen_of_row _ _ 4 _ _ rX
                      have r0 := cell_of_row _ _ 0 _ _ _ rR
                      have y0 := frozen_of_row _ _ 0 _ _ rR
                      have r1 := cell_of_row _ _ 1 _ _ _ rR
                      have y1 := frozen_of_row _ _ 1 _ _ rR
                      have r2 := cell_of_row _ _ 2 _ _ _ rR
                      have y2 := frozen_of_row _ _ 2 _ _ rR
                      have r3 := cell_of_row _ _ 3 _ _ _ rR
                      have y3 := frozen_of_row _ _ 3 _ _ rR
                      have r4 := cell_of_row _ _ 4 _ _ _ rR
                      have y4 := frozen_of_row _ _ 4 _ _ rR
                      have f0 := cell_of_row _ _ 0 _ _ _ rF
                      have f1 := cell_of_row _ _ 1 _ _ _ rF
                      simp only [List.getElem?_toArray, List.getElem?_cons_zero, List.getElem?_cons_succ] at e0 e1 e2 e3 e4 r0 r1 r2 r3 r4 f0 f1
                      clear rX rR rF
                      go_wp2
                      obtain ⟨hrow, hD⟩ := H10.out.1.done (p0 := p) H10.out.2 20 fa fb fc m9
                      refine bodyPost_ret (results_cell_row rfl _ _ (w.heap.size + 1) 41 _ (0, 0) _ rfl hrow Tryd.underlying41 rfl (by kernel_rfl)) rfl ?_
                      exact hD
                  | false =>
                    cases ho21 : (op == 21) with
                    | true =>
                      obtain rfl : op = 21 := by simpa using ho21
                      clear ho21 ho1 ho14 ho15 ho16 ho17 ho18 ho20
                      have rX := HE.out.1.mins
                      have rR := HE.out.1.res
                      have rF := HE.out.1.fbox
                      have e0 := cell_of_row _ _ 0 _ _ _ rX
                      have e1 := cell_of_row _ _ 1 _ _ _ rX
                      have e2 := cell_of_row _ _ 2 _ _ _ rX
                      have e3 := cell_of_row _ _ 3 _ _ _ rX
                      have e4 := cell_of_row _ _ 4 _ _ _ rX
                      have z4 := frozen_of_row _ _ 4 _ _ rX
                      have r0 := cell_of_row _ _ 0 _ _ _ rR
                      have y0 := frozen_of_row _ _ 0 _ _ rR
                      have r1 := cell_of_row _ _ 1 _ _ _ rR
                      have y1 := frozen_of_row _ _ 1 _ _ rR
                      have r2 := cell_of_row _ _ 2 _ _ _ rR
                      have y2 := frozen_of_row _ _ 2 _ _ rR
                      have r3 := cell_of_row _ _ 3 _ _ _ rR
                      have y3 := frozen_of_row _ _ 3 _ _ rR
                      have r4 := cell_of_row _ _ 4 _ _ _ rR
                      have y4 := frozen_of_row _ _ 4 _ _ rR
                      have f0 := cell_of_row _ _ 0 _ _ _ rF
                      have f1 := cell_of_row _ _ 1 _ _ _ rF
                      simp only [List.getElem?_toArray, List.getElem?_cons_zero, List.getElem?_cons_succ] at e0 e1 e2 e3 e4 r0 r1 r2 r3 r4 f0 f1
                      clear rX rR rF
                      obtain h0 | h0 : (n : Int) = 0 ∨ 0 < (n : Int) := by omega
                      · obtain rfl : n = 0 := by omega
                        clear h0
                        go_wp2
                        obtain ⟨hrow, hD⟩ := HE.out.1.done (p0 := p) (by have := HE.out.2; omega) 21 fa fb fc 0
                        refine bodyPost_ret (results_cell_row rfl _ _ (w.heap.size + 1) 41 _ (0, 0) _ rfl hrow Tryd.underlying41 rfl (by kernel_rfl)) rfl ?_
                        exact hD
                      · have h1 : ((n : Int) == 0) = false := by rw [beq_eq_false_iff_ne]; omega
                        go_wp2_with fail
                        refine (pick_any w0 _ br a len cap bs q ((n : Int)) HE.out.1.rd (by omega) hlen (by have := HQ.out; omega)).mono ?_
                        rintro e w9 ⟨m9, _, _, rfl, hrd9, hg9⟩
                        have H9 := Lib.hid (And.intro (HE.out.1.grown hg9 hrd9) (show q + 1 ≤ p + 8 by have := HE.out.2; omega))
                        clear hrd9 hg9 e0 e1 e2 e3 e4 z4 r0 r1 r2 r3 r4 y0 y1 y2 y3 y4 f0 f1
                        have rX := H9.out.1.mins
                        have e4 := cell_of_row _ _ 4 _ _ _ rX
                        have z4 := frozen_of_row _ _ 4 _ _ rX
                        simp only [List.getElem?_toArray, List.getElem?_cons_zero, List.getElem?_cons_succ] at e4
                        clear rX
                        have H10 := Lib.hid (And.intro (H9.out.1.store 4 (.int .i64 m9) (op' := 21) (fa' := fa) (fb' := fb) (fc' := fc) (fn' := m9) rfl) H9.out.2)
                        go_upto_region 32 with fail
                        clear e4 z4
                        generalize w9.setCell ⟨x, 4, none⟩ (.int .i64 m9) = W10 at H10 ⊢
                        have rX := H10.out.1.mins
                        have rR := H10.out.1.res
                        have rF := H10.out.1.fbox
                        have e0 := cell_of_row _ _ 0 _ _ _ rX
                        have e1 := cell_of_row _ _ 1 _ _ _ rX
                        have e2 := cell_of_row _ _ 2 _ _ _ rX
                        have e3 := cell_of_row _ _ 3 _ _ _ rX
                        have e4 := cell_of_row _ _ 4 _ _ _ rX
                        have z4 := frozen_of_row _ _ 4 _ _ rX
                        have r0 := cell_of_row _ _ 0 _ _ _ rR
                        have y0 := frozen_of_row _ _ 0 _ _ rR
                        have r1 := cell_of_row _ _ 1 _ _ _ rR
                        have y1 := frozen_of_row _ _ 1 _ _ rR
                        have r2 := cell_of_row _ _ 2 _ _ _ rR
                        have y2 := frozen_of_row _ _ 2 _ _ rR
                        have r3 := cell_of_row _ _ 3 _ _ _ rR
                        have y3 := frozen_of_row _ _ 3 _ _ rR
                        have r4 := cell_of_row _ _ 4 _ _ _ rR
                        have y4 := frozen_of_row _ _ 4 _ _ rR
                        have f0 := cell_of_row _ _ 0 _ _ _ rF
                        have f1 := cell_of_row _ _ 1 _ _ _ rF
                        simp only [List.getElem?_toArray, List.getElem?_cons_zero, List.getElem?_cons_succ] at e0 e1 e2 e3 e4 r0 r1 r2 r3 r4 f0 f1
                        clear rX rR rF
                        go_wp2
                        obtain ⟨hrow, hD⟩ := H10.out.1.done (p0 := p) H10.out.2 21 fa fb fc m9
                        refine bodyPost_ret (results_cell_row rfl _ _ (w.heap.size + 1) 41 _ (0, 0) _ rfl hrow Tryd.underlying41 rfl (by kernel_rfl)) rfl ?_
                        exact hD
                    | false =>
                      have rX := HE.out.1.mins
                      have rR := HE.out.1.res
                      have rF := HE.out.1.fbox
                      have e0 := cell_of_row _ _ 0 _ _ _ rX
                      have e1 := cell_of_row _ _ 1 _ _ _ rX
                      have e2 := cell_of_row _ _ 2 _ _ _ rX
                      have e3 := cell_of_row _ _ 3 _ _ _ rX
                      have e4 := cell_of_row _ _ 4 _ _ _ rX
                      have z4 := frozen_of_row _ _ 4 _ _ rX
                      have r0 := cell_of_row _ _ 0 _ _ _ rR
                      have y0 := frozen_of_row _ _ 0 _ _ rR
                      have r1 := cell_of_row _ _ 1 _ _ _ rR
                      have y1 := frozen_of_row _ _ 1 _ _ rR
                      have r2 := cell_of_row _ _ 2 _ _ _ rR
                      have y2 := frozen_of_row _ _ 2 _ _ rR
                      have r3 := cell_of_row _ _ 3 _ _ _ rR
                      have y3 := frozen_of_row _ _ 3 _ _ rR
                      have r4 := cell_of_row _ _ 4 _ _ _ rR
                      have y4 := frozen_of_row _ _ 4 _ _ rR
                      have f0 := cell_of_row _ _ 0 _ _ _ rF
                      have f1 := cell_of_row _ _ 1 _ _ _ rF
                      simp only [List.getElem?_toArray, List.getElem?_cons_zero, List.getElem?_cons_succ] at e0 e1 e2 e3 e4 r0 r1 r2 r3 r4 f0 f1
                      clear rX rR rF
                      go_wp2
                      obtain ⟨hrow, hD⟩ := HE.out.1.done (p0 := p) (by have := HE.out.2; omega) op fa fb fc 0
                      refine bodyPost_ret (results_cell_row rfl _ _ (w.heap.size + 1) 41 _ (0, 0) _ rfl hrow Tryd.underlying41 rfl (by kernel_rfl)) rfl ?_
                      exact hD

end Go.Proofs.YtdkafajmhgfkoaaDoor
