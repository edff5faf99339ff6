
/-
  ReadMins, the program's: the walk.
-/
import Derived.Test.YtdkafajmhgfkoaaDoorRmImpl2
import Derived.Test.YtdkafajmhgfkoaaDoorRmSpec2
import Derived.Deep.DeepCutAuto
import Derived.Deep.RegionLaw
namespace Go.Proofs.YtdkafajmhgfkoaaDoor
open Go.RowKit

/-- What the program's ReadMins answers. -/
def idxW (ws : List ByteArray) : Int := idxM (fun nm => nm.toList == (ws.getD 0 ⟨#[]⟩).toList) nameL
def rmI (ws : List ByteArray) : Option (Nat × List Int) :=
  if idxW ws < 1 then none else (implR (idxW ws).toNat ws).map (fun xs => ((idxW ws).toNat, xs))
theorem idxM_range {α : Type} {p : α → Bool} : ∀ rs : List α, -1 ≤ idxM p rs ∧ idxM p rs < rs.length
  | [] => by simp [idxM]
  | r :: rs => by
    have ih := idxM_range (p := p) rs
    unfold idxM
    split
    · simp
    · split
      · simp; omega
      · simp; omega
theorem stI_len (F : Int) (ws : List ByteArray) : ∀ (i : Nat) (xs : List Int) (j : Nat), stI F ws i = some (xs, j) → xs.length = 4 ∧ 1 ≤ j
  | 0, xs, j, h => by
    rw [stI] at h
    cases h
    exact ⟨rfl, Nat.le_refl _⟩
  | i + 1, xs, j, h => by
    rw [stI] at h
    cases h1 : stI F ws i with
    | none => rw [h1] at h; cases h
    | some p =>
      obtain ⟨ys, j'⟩ := p
      obtain ⟨h2, h3⟩ := stI_len F ws i ys j' h1
      rw [h1] at h
      simp only at h
      split at h
      · split at h
        · cases h
          exact ⟨by rw [List.length_set]; exact h2, by omega⟩
        · cases h
      · cases h
        exact ⟨h2, h3⟩
theorem stI_none (F : Int) (ws : List ByteArray) {i : Nat} (h : stI F ws i = none) : ∀ {n : Nat}, i ≤ n → stI F ws n = none := by
  intro n hn
  induction n with
  | zero => obtain rfl : i = 0 := by omega
            exact h
  | succ n ih =>
    by_cases he : i = n + 1
    · subst he; exact h
    · rw [stI, ih (by omega)]

/-- The cells of an instruction. -/
def minsV (op : Int) (xs : List Int) : List Value := .int .i64 op :: xs.map (Value.int .i64)
theorem minsV_set (op : Int) (xs : List Int) (k : Nat) (v : Int) : (minsV op xs).toArray.setIfInBounds (k + 1) (.int .i64 v) = (minsV op (xs.set k v)).toArray := by
  rw [List.setIfInBounds_toArray]
  simp [minsV, List.map_set]
theorem minsV_get (op : Int) (xs : List Int) (k : Nat) (h : k < xs.length) : (minsV op xs).toArray[k + 1]? = some (.int .i64 (xs.getD k 0)) := by
  rw [List.getElem?_toArray, minsV, List.getElem?_cons_succ, List.getElem?_map, List.getD_eq_getElem?_getD, List.getElem?_eq_getElem h]
  rfl

/-- While the fields are read. -/
structure RmSt (w : World) (q bw x lb : Nat) (op : Int) (n : Nat) (ws : List ByteArray) (wa : Option Addr) (m : Nat) (j : Nat) (xs : List Int) (wr : World) : Prop where
  low : Below w.heap.size w wr
  res : wr.heap[q]? = some (.cells #[.int .i64 0, .int .i64 0, .int .i64 0, .int .i64 0, .int .i64 0] 41 (0, 0))
  box : wr.heap[bw]? = some (.cells #[.slice wa m m] 56 (0, 0))
  mins : wr.heap[x]? = some (.cells (minsV op xs).toArray 41 (0, 0))
  list : StrsRd wr (some ⟨lb, 0, none⟩) n ws
  here : m ≠ 0 → wa = some ⟨lb, j, none⟩
  rest : m + j = n
  ne : lb ≠ bw ∧ lb ≠ x ∧ bw ≠ x ∧ bw ≠ q ∧ x ≠ q ∧ w.heap.size ≤ bw ∧ w.heap.size ≤ x
theorem StrsRd.stored {w : World} {lb n : Nat} {ws : List ByteArray} (h : StrsRd w (some ⟨lb, 0, none⟩) n ws) {g : Nat} (hne : lb ≠ g) (i : Nat) (v : Value) : StrsRd (w.setCell ⟨g, i, none⟩ v) (some ⟨lb, 0, none⟩) n ws := by
  refine ⟨h.length, ?_⟩
  rcases h.row with h0 | ⟨b, off, he, h1⟩
  · exact .inl h0
  · cases he
    exact .inr ⟨lb, 0, rfl, fun i' v' hv => (World.cell?_of_block (w := w) (Below.heap_setCell _ _ _ _ hne)).trans (h1 i' v' hv)⟩
section
variable {w wr w' : World} {q bw x lb : Nat} {op : Int} {n : Nat} {ws : List ByteArray} {wa : Option Addr} {m j : Nat} {xs : List Int}
theorem RmSt.below (h : RmSt w q bw x lb op n ws wa m j xs wr) (hb : Below wr.heap.size wr w') : RmSt w q bw x lb op n ws wa m j xs w' :=
  ⟨h.low.trans (hb.mono h.low.size), (hb.block _ (Array.getElem?_eq_some_iff.1 h.res).1).trans h.res, (hb.block _ (Array.getElem?_eq_some_iff.1 h.box).1).trans h.box, (hb.block _ (Array.getElem?_eq_some_iff.1 h.mins).1).trans h.mins, h.list.later hb, h.here, h.rest, h.ne⟩
theorem RmSt.put (h : RmSt w q bw x lb op n ws wa m j xs wr) (k : Nat) (v : Int) : RmSt w q bw x lb op n ws wa m j (xs.set k v) (wr.setCell ⟨x, k + 1, none⟩ (.int .i64 v)) := by
  obtain ⟨n1, n2, n3, n4, n5, n6, n7⟩ := h.ne
  have hx := (Array.getElem?_eq_some_iff.1 h.mins).1
  refine ⟨h.low.trans ((turned_store wr x (k + 1) (.int .i64 v)).below h.low.size (fun k hk => by omega)), (heap_setCell_other wr ⟨x, k + 1, none⟩ q _ (fun e => n5 e.symm)).trans h.res, (heap_setCell_other wr ⟨x, k + 1, none⟩ bw _ n3).trans h.box, ?_, h.list.stored n2 _ _, h.here, h.rest, h.ne⟩
  rw [heap_setCell_same wr x (k + 1) _ _ _ h.mins, minsV_set]
theorem RmSt.cut (h : RmSt w q bw x lb op n ws wa m j xs wr) {wa' : Option Addr} {m' j' : Nat} (h1 : m' ≠ 0 → wa' = some ⟨lb, j', none⟩) (h2 : m' + j' = n) : RmSt w q bw x lb op n ws wa' m' j' xs (wr.setCell ⟨bw, 0, none⟩ (.slice wa' m' m')) := by
  obtain ⟨n1, n2, n3, n4, n5, n6, n7⟩ := h.ne
  refine ⟨h.low.trans ((turned_store wr bw 0 (.slice wa' m' m')).below h.low.size (fun k hk => by omega)), (heap_setCell_other wr ⟨bw, 0, none⟩ q _ (fun e => n4 e.symm)).trans h.res, ?_, (heap_setCell_other wr ⟨bw, 0, none⟩ x _ (fun e => n3 e.symm)).trans h.mins, h.list.stored n1 _ _, h1, h2, h.ne⟩
  rw [heap_setCell_same wr bw 0 _ _ _ h.box]
  rfl
end
theorem idxp_0 (x : Nat) (w : World) : (Instr.index 69 (.agg #[.pointer (some ⟨x, 1, none⟩), .pointer (some ⟨x, 2, none⟩), .pointer (some ⟨x, 3, none⟩), .pointer (some ⟨x, 4, none⟩)]) (.int .i64 0)).run Tryd.prog w = .ok (.pointer (some ⟨x, 1, none⟩)) w := by kernel_rfl
theorem idxp_1 (x : Nat) (w : World) : (Instr.index 69 (.agg #[.pointer (some ⟨x, 1, none⟩), .pointer (some ⟨x, 2, none⟩), .pointer (some ⟨x, 3, none⟩), .pointer (some ⟨x, 4, none⟩)]) (.int .i64 1)).run Tryd.prog w = .ok (.pointer (some ⟨x, 2, none⟩)) w := by kernel_rfl
theorem idxp_2 (x : Nat) (w : World) : (Instr.index 69 (.agg #[.pointer (some ⟨x, 1, none⟩), .pointer (some ⟨x, 2, none⟩), .pointer (some ⟨x, 3, none⟩), .pointer (some ⟨x, 4, none⟩)]) (.int .i64 2)).run Tryd.prog w = .ok (.pointer (some ⟨x, 3, none⟩)) w := by kernel_rfl
theorem idxp_3 (x : Nat) (w : World) : (Instr.index 69 (.agg #[.pointer (some ⟨x, 1, none⟩), .pointer (some ⟨x, 2, none⟩), .pointer (some ⟨x, 3, none⟩), .pointer (some ⟨x, 4, none⟩)]) (.int .i64 3)).run Tryd.prog w = .ok (.pointer (some ⟨x, 4, none⟩)) w := by kernel_rfl
theorem idxp_any (x k : Nat) (hk : k < 4) (w : World) : (Instr.index 69 (.agg #[.pointer (some ⟨x, 1, none⟩), .pointer (some ⟨x, 2, none⟩), .pointer (some ⟨x, 3, none⟩), .pointer (some ⟨x, 4, none⟩)]) (.int .i64 (k : Int))).run Tryd.prog w = .ok (.pointer (some ⟨x, k + 1, none⟩)) w := by
  have h4 : k = 0 ∨ k = 1 ∨ k = 2 ∨ k = 3 := by omega
  rcases h4 with rfl | rfl | rfl | rfl
  · exact idxp_0 x w
  · exact idxp_1 x w
  · exact idxp_2 x w
  · exact idxp_3 x w

set_option maxRecDepth 100000 in
set_option maxHeartbeats 8000000 in
theorem implReadMins_any (s : ByteArray) (w : World) (hF : FormsNm w) (hs : s.size ≤ 1048576) :
    Calls Tryd.prog 18 #[.string s] w fun e w' => e = .returned (.tuple #[.agg (outV (rmI (cutS s))).toArray, .bool (rmI (cutS s)).isSome]) ∧ Below w.heap.size w w' := by
  have hba : Below w.heap.size w (w.alloc (.cells #[.int .i64 0, .int .i64 0, .int .i64 0, .int .i64 0, .int .i64 0] 41)) := (Below.refl _ _).alloc (Nat.le_refl _) _
  have hA := heap_alloc_new w (.cells #[.int .i64 0, .int .i64 0, .int .i64 0, .int .i64 0, .int .i64 0] 41)
  have H0 := Lib.hid (And.intro hba hA)
  have HF := Lib.hid hF
  clear hba hA hF
  have hn1 := cutS_ne s
  obtain ⟨ws, hws⟩ : ∃ ws, ws = cutS s := ⟨_, rfl⟩
  obtain ⟨R, hR⟩ : ∃ R, R = rmI ws := ⟨_, rfl⟩
  rw [← hws, ← hR]
  rw [← hws] at hn1
  have HRR := Lib.hid hR
  have HSP := Lib.hid (fun W => split_any s W hs)
  rw [← hws] at HSP
  clear hws hR
  go_enter Tryd.func18, Tryd.ntmps18
  go_upto_region 1 with fail
  obtain ⟨q, hq⟩ : ∃ q, q = w.heap.size := ⟨_, rfl⟩
  generalize w.alloc (.cells #[.int .i64 0, .int .i64 0, .int .i64 0, .int .i64 0, .int .i64 0] 41) = W1 at H0 ⊢
  rw [← hq] at H0 ⊢
  have HQ := Lib.hid hq
  clear hq
  go_wp2_with fail
  refine (HSP.out W1).mono ?_
  rintro e w2 ⟨rfl, hS2, hb2⟩
  obtain ⟨lb, hlb⟩ : ∃ lb, lb = W1.heap.size := ⟨_, rfl⟩
  rw [← hlb] at hS2 ⊢
  have hba : Below w2.heap.size w2 (w2.alloc (.cells #[.slice (some ⟨lb, 0, none⟩) ws.length ws.length] 56)) := (Below.refl _ _).alloc (Nat.le_refl _) _
  have hb02 : Below W1.heap.size W1 (w2.alloc (.cells #[.slice (some ⟨lb, 0, none⟩) ws.length ws.length] 56)) := hb2.trans (hba.mono hb2.size)
  have hs1 := H0.out.1.size
  have hlt2 : lb < w2.heap.size := by
    obtain ⟨b, off, he, hc⟩ := hS2.place (show 0 < ws.length by omega)
    cases he
    exact World.block_lt_of_cell? _ _ hc
  have H3 := Lib.hid (And.intro (hS2.later hba) (And.intro (show Below w.heap.size w _ by rw [← HQ.out]; exact H0.out.1.trans (hb02.mono (by have := HQ.out; omega))) (And.intro (heap_alloc_new w2 (.cells #[.slice (some ⟨lb, 0, none⟩) ws.length ws.length] 56)) (And.intro ((hb02.block _ (Array.getElem?_eq_some_iff.1 H0.out.2).1).trans H0.out.2) (And.intro hlt2 (show q < lb by have := (Array.getElem?_eq_some_iff.1 H0.out.2).1; omega))))))
  have k3 := cell_of_row _ _ 0 _ _ _ H3.out.2.2.1
  simp only [List.getElem?_toArray, List.getElem?_cons_zero] at k3
  clear hS2 hb2 hba hb02 hs1 hlt2 H0 HSP hlb
  go_upto_region 2 with fail
  generalize w2.alloc (.cells #[.slice (some ⟨lb, 0, none⟩) ws.length ws.length] 56) = W3 at H3 k3 ⊢
  obtain ⟨bw, hbw⟩ : ∃ bw, bw = w2.heap.size := ⟨_, rfl⟩
  rw [← hbw] at H3 k3 ⊢
  clear hbw
  have hFN : FormFn W3 36 #[.pointer (some ⟨bw, 0, none⟩)] (fun nm => nm.toList == (ws.getD 0 ⟨#[]⟩).toList) :=
    ⟨fun v W => by kernel_rfl, fun nm F W hW => readMins1_any nm F ws bw _ _ _ W (H3.out.1.later hW) hn1 (cell_later hW k3)⟩
  have HI := Lib.hid (indexForms_any _ _ _ W3 (HF.out.later H3.out.2.1) hFN)
  clear hFN
  go_wp2_with fail
  refine HI.out.mono ?_
  rintro e w4 ⟨rfl, hb4⟩
  have hrg := idxM_range (p := fun nm : ByteArray => nm.toList == (ws.getD 0 ⟨#[]⟩).toList) nameL
  have hW : idxM (fun nm : ByteArray => nm.toList == (ws.getD 0 ⟨#[]⟩).toList) nameL = idxW ws := rfl
  rw [hW, show nameL.length = 23 from rfl] at hrg
  rw [hW]
  clear hW HI k3
  have H4 := Lib.hid (And.intro (H3.out.1.later hb4) (And.intro (H3.out.2.1.trans (hb4.mono H3.out.2.1.size)) (And.intro ((hb4.block _ (Array.getElem?_eq_some_iff.1 H3.out.2.2.1).1).trans H3.out.2.2.1) ((hb4.block _ (Array.getElem?_eq_some_iff.1 H3.out.2.2.2.1).1).trans H3.out.2.2.2.1))))
  have HLT := Lib.hid (And.intro H3.out.2.2.2.2 (show bw < w4.heap.size by have := (Array.getElem?_eq_some_iff.1 H3.out.2.2.1).1; have := hb4.size; omega))
  clear hb4 H3
  by_cases hI1 : idxW ws < 1
  · have HN := Lib.hid (show R = none from HRR.out.trans (by rw [rmI, if_pos hI1]))
    generalize idxW ws = I at hI1 hrg ⊢
    have r0 := cell_of_row _ _ 0 _ _ _ H4.out.2.2.2
    have z0 := frozen_of_row _ _ 0 _ _ H4.out.2.2.2
    have r1 := cell_of_row _ _ 1 _ _ _ H4.out.2.2.2
    have z1 := frozen_of_row _ _ 1 _ _ H4.out.2.2.2
    have r2 := cell_of_row _ _ 2 _ _ _ H4.out.2.2.2
    have z2 := frozen_of_row _ _ 2 _ _ H4.out.2.2.2
    have r3 := cell_of_row _ _ 3 _ _ _ H4.out.2.2.2
    have z3 := frozen_of_row _ _ 3 _ _ H4.out.2.2.2
    have r4 := cell_of_row _ _ 4 _ _ _ H4.out.2.2.2
    have z4 := frozen_of_row _ _ 4 _ _ H4.out.2.2.2
    simp only [List.getElem?_toArray, List.getElem?_cons_zero, List.getElem?_cons_succ] at r0 r1 r2 r3 r4
    go_wp2
    obtain ⟨hp, hbp⟩ := put_mins (y0 := 0) (y1 := 0) (y2 := 0) (y3 := 0) (y4 := 0) H4.out.2.2.2 (base := w.heap.size) (by have := HQ.out; omega)
    refine bodyPost_ret (results_form rfl _ _ q 41 #[.int .i64 0, .int .i64 0, .int .i64 0, .int .i64 0, .int .i64 0] (0, 0) _ rfl hp Tryd.underlying41 rfl (by kernel_rfl)) rfl ?_
    rw [HN.out]
    exact ⟨rfl, H4.out.2.1.trans hbp⟩
  · obtain ⟨op, hop⟩ := Int.eq_ofNat_of_zero_le (show 0 ≤ idxW ws by omega)
    have HR := Lib.hid (show R = (implR op ws).map (fun xs => (op, xs)) from HRR.out.trans (by rw [rmI, if_neg hI1, hop]; rfl))
    rw [hop] at hrg hI1 ⊢
    have hop1 : 1 ≤ op := by omega
    have hop2 : op < 23 := by omega
    clear hop hrg hI1 HRR
    have hba : Below w4.heap.size w4 (w4.alloc (.cells #[.int .i64 (op : Int), .int .i64 0, .int .i64 0, .int .i64 0, .int .i64 0] 41)) := (Below.refl _ _).alloc (Nat.le_refl _) _
    have H5 := Lib.hid (And.intro (H4.out.1.later hba) (And.intro (H4.out.2.1.trans (hba.mono H4.out.2.1.size)) (And.intro ((hba.block _ (Array.getElem?_eq_some_iff.1 H4.out.2.2.1).1).trans H4.out.2.2.1) (And.intro ((hba.block _ (Array.getElem?_eq_some_iff.1 H4.out.2.2.2).1).trans H4.out.2.2.2) (heap_alloc_new w4 (.cells #[.int .i64 (op : Int), .int .i64 0, .int .i64 0, .int .i64 0, .int .i64 0] 41))))))
    clear hba H4
    have k5 := cell_of_row _ _ 0 _ _ _ H5.out.2.2.1
    have z5 := frozen_of_row _ _ 0 _ _ H5.out.2.2.1
    simp only [List.getElem?_toArray, List.getElem?_cons_zero] at k5
    have hiop : ((op : Int) < 1) = False := by simp; omega
    go_upto_region 6 with fail
    generalize w4.alloc (.cells #[.int .i64 (op : Int), .int .i64 0, .int .i64 0, .int .i64 0, .int .i64 0] 41) = W5 at H5 k5 z5 ⊢
    obtain ⟨x, hx⟩ : ∃ x, x = w4.heap.size := ⟨_, rfl⟩
    rw [← hx] at H5 ⊢
    have HX := Lib.hid hx
    clear hx hiop
    have hni : (1 : Int) ≤ (ws.length : Int) := by omega
    have HS := Lib.hid (RmSt.cut (w := w) (q := q) (x := x) (op := (op : Int)) (n := ws.length) (wa := some ⟨lb, 0, none⟩) (m := ws.length) (j := 0) (xs := [0, 0, 0, 0]) (wr := W5)
      ⟨H5.out.2.1, H5.out.2.2.2.1, H5.out.2.2.1, H5.out.2.2.2.2, H5.out.1, fun _ => rfl, rfl, by have := HLT.out; have := HX.out; have := HQ.out; omega⟩
      (wa' := if ws.length = 1 then some ⟨lb, 0, none⟩ else some ⟨lb, 1, none⟩) (m' := ws.length - 1) (j' := 1) (fun h => if_neg (by omega)) (by omega))
    go_upto_region 7 with fail
    clear H5 k5 z5 hni
    generalize W5.setCell ⟨bw, 0, none⟩ (.slice (if ws.length = 1 then some ⟨lb, 0, none⟩ else some ⟨lb, 1, none⟩) (ws.length - 1) (ws.length - 1)) = W6 at HS ⊢
    generalize (if ws.length = 1 then some (Addr.mk lb 0 none) else some ⟨lb, 1, none⟩) = wa0 at HS ⊢
    obtain ⟨F, hF⟩ : ∃ F, F = fmL.getD op 0 := ⟨_, rfl⟩
    have hvals : F = 9 ∨ F = 3 ∨ F = 7 ∨ F = 1 ∨ F = 8 := by
      rcases words_vals op hop2 hop1 with ⟨_, e⟩ | ⟨_, e⟩ | ⟨_, e⟩ | ⟨_, e⟩ | ⟨_, e⟩ <;> rw [hF, e] <;> simp
    have HFE := Lib.hid hF
    clear hF
    have HVL := Lib.hid hvals
    clear hvals
    go_wp2_with fail
    go_loopg [26] 4 (fun G i wr => ∃ (k j m : Nat) (wa : Option Addr) (xs : List Int), k + G = 4 ∧ i = .int .i64 k ∧ Hid (stI F ws k = some (xs, j) ∧ RmSt w q bw x lb op ws.length ws wa m j xs wr))
    case atStart => exact ⟨0, 1, _, _, _, by omega, rfl, Lib.hid ⟨rfl, HS.out⟩⟩
    case round =>
      obtain ⟨k, j, m, wa, xs, hk, rfl, HI⟩ := hrel
      clear HS
      by_cases hlt : k < 4
      · have hki : (k : Int) < 4 := by omega
        have hix := fun W => idxp_any x k hlt W
        obtain ⟨-, c1⟩ := HF.out.later HI.out.2.low op hop2
        rw [← HFE.out] at c1
        have hopi : (op : Int) < 23 := by omega
        go_upto_region 10 with fail
        go_cut [37] (fun s wx => s = .bool (!bitB F k) ∧ Hid (RmSt w q bw x lb op ws.length ws wa m j xs wx))
        case first =>
          have hkq : k = 0 ∨ k = 1 ∨ k = 2 ∨ k = 3 := by omega
          have HR2 := Lib.hid (HI.out.2)
          clear HI hix hk hki hlt
          rcases hkq with rfl | rfl | rfl | rfl
          all_goals
            rcases HVL.out with rfl | rfl | rfl | rfl | rfl
            all_goals
              go_quiet (fail)
              go_wp2_with fail
              go_meet
              exact ⟨rfl, Lib.hid (HR2.out.below (below_drewN (Below.refl _ _) _))⟩
        case rest =>
        obtain ⟨rfl, HC⟩ := hcut
        have HST := Lib.hid HI.out.1
        clear HI c1 hix hopi
        cases hb : bitB F k with
        | false =>
          have HN := Lib.hid (show stI F ws (k + 1) = some (xs, j) by rw [stI, HST.out]; simp [hb])
          clear hb
          go_wp2
          go_roundg (gk - 1)
          case measure => omega
          case rel => exact ⟨k + 1, j, m, wa, xs, by omega, by go_num, Lib.hid ⟨HN.out, HC.out⟩⟩
        | true =>
          have k1 := cell_of_row _ _ 0 _ _ _ HC.out.box
          simp only [List.getElem?_toArray, List.getElem?_cons_zero] at k1
          have HSN := Lib.hid (show stI F ws (k + 1) = if j < ws.length ∧ 0 ≤ numB (ws.getD j ⟨#[]⟩) then some (xs.set k (numB (ws.getD j ⟨#[]⟩)), j + 1) else none by rw [stI, HST.out]; simp [hb])
          clear hb
          have HNO := Lib.hid (fun (h : stI F ws (k + 1) = none) => show R = none from HR.out.trans (by rw [implR, ← HFE.out, stI_none F ws h (by omega)]; rfl))
          by_cases hm : m = 0
          · have HN := Lib.hid (HNO.out (HSN.out.trans (if_neg (fun h => by have := HC.out.rest; omega))))
            subst hm
            have HRES := Lib.hid (And.intro HC.out.res HC.out.low)
            have r0 := cell_of_row _ _ 0 _ _ _ HRES.out.1
            have z0 := frozen_of_row _ _ 0 _ _ HRES.out.1
            have r1 := cell_of_row _ _ 1 _ _ _ HRES.out.1
            have z1 := frozen_of_row _ _ 1 _ _ HRES.out.1
            have r2 := cell_of_row _ _ 2 _ _ _ HRES.out.1
            have z2 := frozen_of_row _ _ 2 _ _ HRES.out.1
            have r3 := cell_of_row _ _ 3 _ _ _ HRES.out.1
            have z3 := frozen_of_row _ _ 3 _ _ HRES.out.1
            have r4 := cell_of_row _ _ 4 _ _ _ HRES.out.1
            have z4 := frozen_of_row _ _ 4 _ _ HRES.out.1
            simp only [List.getElem?_toArray, List.getElem?_cons_zero, List.getElem?_cons_succ] at r0 r1 r2 r3 r4
            go_wp2
            obtain ⟨hp, hbp⟩ := put_mins (y0 := 0) (y1 := 0) (y2 := 0) (y3 := 0) (y4 := 0) HRES.out.1 (base := w.heap.size) (by have := HQ.out; omega)
            refine bodyPost_ret (results_form rfl _ _ q 41 #[.int .i64 0, .int .i64 0, .int .i64 0, .int .i64 0, .int .i64 0] (0, 0) _ rfl hp Tryd.underlying41 rfl (by kernel_rfl)) rfl ?_
            rw [HN.out]
            exact ⟨rfl, HRES.out.2.trans hbp⟩
          · have hwa := HC.out.here hm
            subst hwa
            obtain ⟨lb', lo', he, lj⟩ := HC.out.list.place (i := j) (by have := HC.out.rest; omega)
            cases he
            rw [Nat.zero_add] at lj
            have hm0 : ((m : Int) == 0) = false := by simp; omega
            have hmi : (0 : Int) < (m : Int) := by omega
            have HJ := Lib.hid (show j < ws.length by have := HC.out.rest; omega)
            have hxl := (stI_len F ws k xs j HST.out).1
            have HXL := Lib.hid hxl
            have HM := Lib.hid (show 1 ≤ m by omega)
            clear hxl hm
            generalize ws.getD j ⟨#[]⟩ = wj at lj HSN
            go_wp2_with fail
            refine (decimal_any wj wc).mono ?_
            rintro e w7 ⟨rfl, hb7⟩
            generalize numB wj = v at HSN ⊢
            have H7 := Lib.hid (HC.out.below hb7)
            have e7 : w7.cell? ⟨x, k + 1, none⟩ = some (.int .i64 (xs.getD k 0)) := (cell_of_row _ _ (k + 1) _ _ _ H7.out.mins).trans (minsV_get _ _ _ (by have := HXL.out; omega))
            have y7 := frozen_of_row _ _ (k + 1) _ _ H7.out.mins
            clear hb7 lj k1
            go_upto_region 14 with fail
            have H8 := Lib.hid (H7.out.put k v)
            generalize w7.setCell ⟨x, k + 1, none⟩ (.int .i64 v) = w8 at H8 ⊢
            clear e7 y7
            have e8 : w8.cell? ⟨x, k + 1, none⟩ = some (.int .i64 v) := (cell_of_row _ _ (k + 1) _ _ _ H8.out.mins).trans ((minsV_get _ _ _ (by have := HXL.out; rw [List.length_set]; omega)).trans (by rw [List.getD_eq_getElem?_getD, List.getElem?_set_self (by have := HXL.out; omega)]; rfl))
            by_cases hv : v < 0
            · have HN := Lib.hid (HNO.out (HSN.out.trans (if_neg (fun h => by omega))))
              have HRES := Lib.hid (And.intro H8.out.res H8.out.low)
              have r0 := cell_of_row _ _ 0 _ _ _ HRES.out.1
              have z0 := frozen_of_row _ _ 0 _ _ HRES.out.1
              have r1 := cell_of_row _ _ 1 _ _ _ HRES.out.1
              have z1 := frozen_of_row _ _ 1 _ _ HRES.out.1
              have r2 := cell_of_row _ _ 2 _ _ _ HRES.out.1
              have z2 := frozen_of_row _ _ 2 _ _ HRES.out.1
              have r3 := cell_of_row _ _ 3 _ _ _ HRES.out.1
              have z3 := frozen_of_row _ _ 3 _ _ HRES.out.1
              have r4 := cell_of_row _ _ 4 _ _ _ HRES.out.1
              have z4 := frozen_of_row _ _ 4 _ _ HRES.out.1
              simp only [List.getElem?_toArray, List.getElem?_cons_zero, List.getElem?_cons_succ] at r0 r1 r2 r3 r4
              go_wp2
              obtain ⟨hp, hbp⟩ := put_mins (y0 := 0) (y1 := 0) (y2 := 0) (y3 := 0) (y4 := 0) HRES.out.1 (base := w.heap.size) (by have := HQ.out; omega)
              refine bodyPost_ret (results_form rfl _ _ q 41 #[.int .i64 0, .int .i64 0, .int .i64 0, .int .i64 0, .int .i64 0] (0, 0) _ rfl hp Tryd.underlying41 rfl (by kernel_rfl)) rfl ?_
              rw [HN.out]
              exact ⟨rfl, HRES.out.2.trans hbp⟩
            · have HN := Lib.hid (show stI F ws (k + 1) = some (xs.set k v, j + 1) from HSN.out.trans (if_pos ⟨HJ.out, by omega⟩))
              have k8 := cell_of_row _ _ 0 _ _ _ H8.out.box
              have z8 := frozen_of_row _ _ 0 _ _ H8.out.box
              simp only [List.getElem?_toArray, List.getElem?_cons_zero] at k8
              have hm1 : (1 : Int) ≤ (m : Int) := by omega
              have H9 := Lib.hid (H8.out.cut (wa' := if m = 1 then some ⟨lb, j, none⟩ else some ⟨lb, j + 1, none⟩) (m' := m - 1) (j' := j + 1) (fun h => if_neg (by omega)) (by have := H8.out.rest; have := HM.out; omega))
              go_upto_region 17 with fail
              clear k8 z8 e8 hm0 hmi hm1
              generalize w8.setCell ⟨bw, 0, none⟩ (.slice (if m = 1 then some ⟨lb, j, none⟩ else some ⟨lb, j + 1, none⟩) (m - 1) (m - 1)) = w9 at H9 ⊢
              generalize (if m = 1 then some (Addr.mk lb j none) else some ⟨lb, j + 1, none⟩) = wa9 at H9 ⊢
              go_wp2
              go_roundg (gk - 1)
              case measure => omega
              case rel => exact ⟨k + 1, j + 1, m - 1, wa9, xs.set k v, by omega, by go_num, Lib.hid ⟨HN.out, H9.out⟩⟩
      · obtain rfl : k = 4 := by omega
        have k1 := cell_of_row _ _ 0 _ _ _ HI.out.2.box
        simp only [List.getElem?_toArray, List.getElem?_cons_zero] at k1
        by_cases hm : m = 0
        · obtain ⟨hl, -⟩ := stI_len F ws 4 xs j HI.out.1
          obtain ⟨a0, b0, c0, d0, rfl⟩ : ∃ a b c d, xs = [a, b, c, d] := by
            match xs, hl with
            | [a, b, c, d], _ => exact ⟨a, b, c, d, rfl⟩
          have HN := Lib.hid (show R = some (op, [a0, b0, c0, d0]) from HR.out.trans (by
            have := HI.out.2.rest
            rw [implR, ← HFE.out, HI.out.1]
            show Option.map _ (if j = ws.length then _ else _) = _
            rw [if_pos (by omega)]
            rfl))
          subst hm
          have HRES := Lib.hid (And.intro HI.out.2.res (And.intro HI.out.2.low (show wr.heap[x]? = some (.cells #[.int .i64 (op : Int), .int .i64 a0, .int .i64 b0, .int .i64 c0, .int .i64 d0] 41 (0, 0)) from HI.out.2.mins)))
          have r0 := cell_of_row _ _ 0 _ _ _ HRES.out.1
          have z0 := frozen_of_row _ _ 0 _ _ HRES.out.1
          have r1 := cell_of_row _ _ 1 _ _ _ HRES.out.1
          have z1 := frozen_of_row _ _ 1 _ _ HRES.out.1
          have r2 := cell_of_row _ _ 2 _ _ _ HRES.out.1
          have z2 := frozen_of_row _ _ 2 _ _ HRES.out.1
          have r3 := cell_of_row _ _ 3 _ _ _ HRES.out.1
          have z3 := frozen_of_row _ _ 3 _ _ HRES.out.1
          have r4 := cell_of_row _ _ 4 _ _ _ HRES.out.1
          have z4 := frozen_of_row _ _ 4 _ _ HRES.out.1
          simp only [List.getElem?_toArray, List.getElem?_cons_zero, List.getElem?_cons_succ] at r0 r1 r2 r3 r4
          have e0 := cell_of_row _ _ 0 _ _ _ HRES.out.2.2
          have y0 := frozen_of_row _ _ 0 _ _ HRES.out.2.2
          have e1 := cell_of_row _ _ 1 _ _ _ HRES.out.2.2
          have y1 := frozen_of_row _ _ 1 _ _ HRES.out.2.2
          have e2 := cell_of_row _ _ 2 _ _ _ HRES.out.2.2
          have y2 := frozen_of_row _ _ 2 _ _ HRES.out.2.2
          have e3 := cell_of_row _ _ 3 _ _ _ HRES.out.2.2
          have y3 := frozen_of_row _ _ 3 _ _ HRES.out.2.2
          have e4 := cell_of_row _ _ 4 _ _ _ HRES.out.2.2
          have y4 := frozen_of_row _ _ 4 _ _ HRES.out.2.2
          simp only [List.getElem?_toArray, List.getElem?_cons_zero, List.getElem?_cons_succ] at e0 e1 e2 e3 e4
          clear hl
          go_wp2
          obtain ⟨hp, hbp⟩ := put_mins (y0 := (op : Int)) (y1 := a0) (y2 := b0) (y3 := c0) (y4 := d0) HRES.out.1 (base := w.heap.size) (by have := HQ.out; omega)
          refine bodyPost_ret (results_form rfl _ _ q 41 #[.int .i64 (op : Int), .int .i64 a0, .int .i64 b0, .int .i64 c0, .int .i64 d0] (0, 0) _ rfl hp Tryd.underlying41 rfl (by kernel_rfl)) rfl ?_
          rw [HN.out]
          exact ⟨rfl, HRES.out.2.1.trans hbp⟩
        · have HN := Lib.hid (show R = none from HR.out.trans (by
            have := HI.out.2.rest
            rw [implR, ← HFE.out, HI.out.1]
            show Option.map _ (if j = ws.length then _ else _) = _
            rw [if_neg (by omega)]
            rfl))
          have hmi : (0 : Int) < (m : Int) := by omega
          clear hm
          have HRES := Lib.hid (And.intro HI.out.2.res HI.out.2.low)
          have r0 := cell_of_row _ _ 0 _ _ _ HRES.out.1
          have z0 := frozen_of_row _ _ 0 _ _ HRES.out.1
          have r1 := cell_of_row _ _ 1 _ _ _ HRES.out.1
          have z1 := frozen_of_row _ _ 1 _ _ HRES.out.1
          have r2 := cell_of_row _ _ 2 _ _ _ HRES.out.1
          have z2 := frozen_of_row _ _ 2 _ _ HRES.out.1
          have r3 := cell_of_row _ _ 3 _ _ _ HRES.out.1
          have z3 := frozen_of_row _ _ 3 _ _ HRES.out.1
          have r4 := cell_of_row _ _ 4 _ _ _ HRES.out.1
          have z4 := frozen_of_row _ _ 4 _ _ HRES.out.1
          simp only [List.getElem?_toArray, List.getElem?_cons_zero, List.getElem?_cons_succ] at r0 r1 r2 r3 r4
          go_wp2
          obtain ⟨hp, hbp⟩ := put_mins (y0 := 0) (y1 := 0) (y2 := 0) (y3 := 0) (y4 := 0) HRES.out.1 (base := w.heap.size) (by have := HQ.out; omega)
          refine bodyPost_ret (results_form rfl _ _ q 41 #[.int .i64 0, .int .i64 0, .int .i64 0, .int .i64 0, .int .i64 0] (0, 0) _ rfl hp Tryd.underlying41 rfl (by kernel_rfl)) rfl ?_
          rw [HN.out]
          exact ⟨rfl, HRES.out.2.trans hbp⟩

end Go.Proofs.YtdkafajmhgfkoaaDoor
