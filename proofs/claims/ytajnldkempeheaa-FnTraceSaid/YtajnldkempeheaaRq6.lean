/-
  The reference's run of a unit on the heap: a code. (printed by mkrq6.py)
-/
import Derived.Test.YtajnldkempeheaaRq5
import Derived.Laws.CopyOwn

namespace Go.Proofs.Ytajnldkempeheaa
open Go.RowKit
set_option linter.unusedVariables false
set_option linter.unusedSimpArgs false

section
variable {doF : Int → Int → Int → Int × Int} {call : Nat → List Int → RunS → Int × RunS} {preds : CodeD → Nat → List Int} {c : CodeD} {main : Bool} {F b : Nat} {regs : List Int} {s : RunS} {x : BlockD}
def addT (main : Bool) (s : RunS) (b : Nat) : RunS := if main then { s with trace := s.trace ++ [b] } else s
theorem addT_fin (main : Bool) (s : RunS) (b : Nat) : (addT main s b).fin = s.fin := by unfold addT; split <;> rfl
theorem addT_left (main : Bool) (s : RunS) (b : Nat) : (addT main s b).left = s.left := by unfold addT; split <;> rfl
theorem addT_good {main : Bool} {s : RunS} {b : Nat} (h : Good s) : Good (addT main s b) := by
  unfold addT
  split
  · exact h.same rfl h.small
  · exact h
theorem getD_of (hx : c.blocks[b]? = some x) : c.blocks.getD b ⟨[], [], 3, 0, []⟩ = x := by rw [List.getD_eq_getElem?_getD, hx]; rfl
theorem block_over {e : Int} {r : List Int × RunS} (hx : c.blocks[b]? = some x) (hr : insAll doF call x.ins regs (addT main s b) = r) (he : r.2.fin = some e) : blockRun doF call preds c main (F + 1) b regs s = (0, r.2) := by
  unfold blockRun
  dsimp only
  rw [getD_of hx]
  unfold addT at hr
  simp only [hr, he]
theorem block_fuel {e : Int} {r : List Int × RunS} (hx : c.blocks[b]? = some x) (hr : insAll doF call x.ins regs (addT main s b) = r) (hn : r.2.fin = none) (he : r.2.take.fin = some e) : blockRun doF call preds c main (F + 1) b regs s = (0, r.2.take) := by
  unfold blockRun
  dsimp only
  rw [getD_of hx]
  unfold addT at hr
  simp only [hr, hn, he]
theorem block_back {r : List Int × RunS} (hx : c.blocks[b]? = some x) (hr : insAll doF call x.ins regs (addT main s b) = r) (hn : r.2.fin = none) (he : r.2.take.fin = none) (hj : x.jump = 3) : blockRun doF call preds c main (F + 1) b regs s = (atI r.1 x.jon, r.2.take) := by
  unfold blockRun
  dsimp only
  rw [getD_of hx]
  unfold addT at hr
  simp only [hr, hn, he, hj, if_true]
theorem block_next {r : List Int × RunS} {nn : Nat} {y : BlockD} (hx : c.blocks[b]? = some x) (hr : insAll doF call x.ins regs (addT main s b) = r) (hn : r.2.fin = none) (he : r.2.take.fin = none) (hj : x.jump ≠ 3) (hnn : nextOf x r.1 = nn) (hy : c.blocks[nn]? = some y) :
    blockRun doF call preds c main (F + 1) b regs s = blockRun doF call preds c main F nn (phiAll y.phis ((preds c nn).idxOf (b : Int)) r.1) r.2.take := by
  conv => lhs; unfold blockRun
  dsimp only
  rw [getD_of hx]
  unfold addT at hr
  simp only [hr, hn, he, hj, if_false]
  rw [hnn, getD_of hy]
theorem insAll_stop1 {y : InsD} {ys : List InsD} {e : Int} (h : s.take.fin = some e) : insAll doF call (y :: ys) regs s = (regs, s.take) := by
  conv => lhs; unfold insAll
  rw [h]
theorem insAll_stop2 {y : InsD} {ys : List InsD} {e : Int} (h : s.take.fin = none) (h2 : (insRun doF call y regs s.take).2.fin = some e) : insAll doF call (y :: ys) regs s = insRun doF call y regs s.take := by
  conv => lhs; unfold insAll
  rw [h]
  dsimp only
  rw [h2]
theorem insAll_go {y : InsD} {ys : List InsD} (h : s.take.fin = none) (h2 : (insRun doF call y regs s.take).2.fin = none) : insAll doF call (y :: ys) regs s = insAll doF call ys (insRun doF call y regs s.take).1 (insRun doF call y regs s.take).2 := by
  conv => lhs; unfold insAll
  rw [h]
  dsimp only
  rw [h2]
end
theorem drop_of {α : Type} {xs : List α} {j : Nat} {x : α} (h : xs[j]? = some x) : xs.drop j = x :: xs.drop (j + 1) := by
  obtain ⟨hl, rfl⟩ := List.getElem?_eq_some_iff.1 h
  exact List.drop_eq_getElem_cons hl
theorem own_whole {w : World} {base : Nat} {e : TypeId} {g n : Nat} {xs : List Value} (h : w.ownsRow base e 1 (.slice (some ⟨g, 0, none⟩) n n) n xs) : w.heap[g]? = some (.cells xs.toArray e (0, 0)) := by
  rcases h.2 with ⟨h', _⟩ | ⟨g', cap, cur, h', hb, hg, hnc, hcm, hcs, htake⟩
  · simp at h'
  · simp only [Value.slice.injEq, Option.some.injEq, Addr.mk.injEq, and_true, true_and] at h'
    obtain ⟨rfl, rfl⟩ := h'
    rw [List.take_of_length_le (by rw [Array.length_toList, hcs]; exact Nat.le_refl _)] at htake
    rw [hg, ← htake]
theorem own_of_whole {w : World} {base : Nat} {e : TypeId} {g n : Nat} {xs : List Value} (h : w.heap[g]? = some (.cells xs.toArray e (0, 0))) (hb : base ≤ g) (hl : xs.length = n) (hm : n ≤ maxLen) : w.ownsRow base e 1 (.slice (some ⟨g, 0, none⟩) n n) n xs :=
  ⟨by omega, .inr ⟨g, n, xs.toArray, rfl, hb, h, Nat.le_refl _, hm, by simpa using hl, by simp [← hl]⟩⟩
/-- What is behind the copy of the numbers into the registers. -/
theorem regs_start {inp : List Int} {n : Nat} (h : inp.length ≤ n) : splice (List.replicate n (Value.int .i64 0)) 0 (inp.map (Value.int .i64)) = (inp ++ List.replicate (n - inp.length) 0).map (Value.int .i64) := by
  simp [splice, List.map_append]
theorem row_src {w : World} {a : Option Addr} {len : Nat} {xs : List Int} (h : IntsRd w a len xs) (h0 : 0 < (xs.map (Value.int .i64)).length) : ∃ ad, a = some ad ∧ ∀ j v, (xs.map (Value.int .i64))[j]? = some v → w.cell? (ad.add j) = some v := by
  rcases h.row with h1 | ⟨b, off, rfl, hc⟩
  · rw [h1] at h0; simp at h0
  · refine ⟨_, rfl, fun j v hv => ?_⟩
    have hadd : (⟨b, off, none⟩ : Addr).add j = ⟨b, off + j, none⟩ := by unfold Addr.add; split <;> simp_all
    rw [hadd]
    exact hc j v hv
theorem Step.base {D D' : Nat → Prop} {w W w' : World} {gb : Nat} (hw : Below w.heap.size w W) (h : Step (fun k => D k ∨ k = gb) W (fun k => D' k ∨ k = gb) w') (hg : w.heap.size ≤ gb) : Step D w D' w' :=
  ⟨⟨h.turned.os.trans hw.os, h.turned.tape.trans hw.tape, h.turned.output.trans hw.output, Nat.le_trans hw.size h.turned.size, fun k hk hn => (h.turned.block k (Nat.lt_of_lt_of_le hk hw.size) (fun hd => hd.elim hn (fun e => by omega))).trans (hw.block k hk)⟩,
   fun k hk hd => (h.dom k (Nat.lt_of_lt_of_le hk hw.size) (.inl hd)).elim id (fun e => by omega)⟩
theorem Step.plus {D D' : Nat → Prop} {w w' : World} {gb : Nat} (h : Step D w D' w') : Step (fun k => D k ∨ k = gb) w (fun k => D' k ∨ k = gb) w' :=
  ⟨h.turned.mono (fun k hk => .inl hk), fun k hk hd => hd.elim (fun h2 => .inl (h.dom k hk h2)) .inr⟩
/-- A run in the middle of a code. -/
structure CSt (w0 : World) (ua : Option Addr) (nu uc rb cb gb n : Nat) (B : Nat → Prop) (W : World) (D : Nat → Prop) (sv tv : Value) (w : World) (regs : List Int) (s : RunS) : Prop where
  st : SSt w0 ua nu uc rb cb D sv tv w s
  rg : RgSt w0.heap.size gb n D w regs
  step : Step (fun k => B k ∨ k = gb) W (fun k => D k ∨ k = gb) w
  good : Good s
  fin : s.fin = none
section
variable {w0 w : World} {us : List CodeD} {ua : Option Addr} {uc rb cb d k : Nat} {D : Nat → Prop} {sv tv : Value} {s : RunS}
set_option maxRecDepth 100000 in
set_option maxHeartbeats 8000000 in
theorem codeS_main {c : CodeD} {inp : List Int} {ia : Option Addr} {ic : Nat} (hV : UnitV us) (hsz : szS szCodeD us ≤ 1048576) (hU : SliceRd 3 CodeR w0 ua us.length us) (hC : CodeC w0 us ua uc rb cb d k) (hk : us[k]? = some c) (hmain : k + 1 = us.length)
    (hinp : (inp.length : Int) = c.params) (hin : IntsRd w ia inp.length inp) (hby : Byts inp) (h : SSt w0 ua us.length uc rb cb D sv tv w s) (hf : s.fin = none) (hs : Good s) (htr : s.trace.length + s.left ≤ 60000) :
    Calls Try.prog 36 #[.pointer (some ⟨rb, 0, none⟩), .int .i64 (k : Int), .slice ia inp.length ic] w fun e w' => e = .returned (.int .i64 (codeRun doD predsC us (d + 1) k inp s).1) ∧
      ∃ D' sv' tv', SSt w0 ua us.length uc rb cb D' sv' tv' w' (codeRun doD predsC us (d + 1) k inp s).2 ∧ Step D w D' w' := by
  have hklt := (List.getElem?_eq_some_iff.1 hk).1
  obtain ⟨ub, uo, params, rgs, blocks, ba, bc, hua, hk2, c0, c1, c2, hCR⟩ := code_place hU hklt
  subst hua
  rw [hk] at hk2
  cases hk2
  have hG := gr_of_code hCR (szS_get hsz hk).1
  obtain ⟨ba2, bc2, hcs, ⟨hbm, hbn⟩, hB⟩ := hCR
  simp only [List.cons.injEq, Value.slice.injEq, and_true, true_and] at hcs
  obtain ⟨rfl, rfl⟩ := hcs
  change SliceRd 5 BlockR w0 ba blocks.length blocks at hB
  obtain ⟨ba3, bc3, hcs, hG⟩ := hG
  simp only [List.cons.injEq, Value.slice.injEq, and_true, true_and] at hcs
  obtain ⟨rfl, -⟩ := hcs
  have hcv := hV.code k _ hk
  have hcr := hcv.regs
  have hcp := hcv.params
  have hcb := hcv.blocks
  simp only at hcr hcp hcb hinp
  obtain ⟨n, rfl⟩ : ∃ n : Nat, rgs = (n : Int) := ⟨rgs.toNat, by omega⟩
  have hcz : szS szBlockD blocks ≤ 1048576 := (szS_get hsz hk).1
  have hus := hV.len
  obtain ⟨R, hR⟩ : ∃ R, R = codeRun doD predsC us (d + 1) k inp s := ⟨_, rfl⟩
  rw [← hR]
  have hRB : blockRun doD (codeRun doD predsC us d) predsC ⟨params, (n : Int), blocks⟩ true (s.left + 1) 0 (inp ++ List.replicate (n - inp.length) 0) s = R := by
    rw [hR]
    conv => rhs; unfold codeRun
    dsimp only
    rw [List.getD_eq_getElem?_getD, hk, Option.getD_some, show (k + 1 == us.length) = true by simpa using hmain]
    rfl
  have hba : Below w.heap.size w (w.alloc (.cells #[.int .i64 params, .int .i64 (n : Int), .slice ba blocks.length bc] 37)) := (Below.refl _ _).alloc (Nat.le_refl _) _
  have hrow := heap_alloc_new w (.cells #[.int .i64 params, .int .i64 (n : Int), .slice ba blocks.length bc] 37)
  have hS1 := h.later hba
  have hk0 := h.cell 0
  simp only [sRow, List.getElem?_toArray, List.getElem?_cons_zero] at hk0
  have d0 := cell_later h.base c0
  have d1 := cell_later h.base c1
  have d2 := cell_later h.base c2
  have hkl : (k : Int) < (us.length : Int) := by omega
  have hnn : n ≤ 300 := by omega
  have hil : inp.length ≤ n := by omega
  have HU := Lib.hid (And.intro hB (And.intro hG (And.intro hV (And.intro hC (And.intro hk hcz)))))
  have HIN := Lib.hid (hin.later hba)
  have HBY := Lib.hid hby
  have HH := Lib.hid (And.intro h (And.intro hf hs))
  have HRB := Lib.hid hRB
  have HR := Lib.hid hR
  have HTR := Lib.hid (And.intro hmain htr)
  generalize hW : (w.alloc (.cells #[.int .i64 params, .int .i64 (n : Int), .slice ba blocks.length bc] 37)) = W1 at hba hrow hS1 HIN
  have HW := Lib.hid hW
  have hW1 : W1.heap.size = w.heap.size + 1 := by rw [← hW, World.size_alloc]
  have HS1 := Lib.hid (And.intro hba (And.intro hS1 (And.intro hrow hW1)))
  clear hW1
  obtain ⟨i0, hi, hz0, hz1, hz2⟩ := info_parts info_int
  have hlo1 : w0.heap.size ≤ W1.heap.size := hS1.base.size
  obtain ⟨cs0, hcs0⟩ : ∃ X, X = inp.map (Value.int .i64) := ⟨_, rfl⟩
  have HCS := Lib.hid hcs0
  have hcsl : cs0.length = inp.length := by rw [hcs0, List.length_map]
  clear hR hRB h hf hs hin hby hU hC hk hV hsz hB hG hcv hbm hbn hW hS1 c0 c1 c2 hcs0 hcz hinp hba hmain htr
  obtain ⟨kb, hkb⟩ : ∃ b, b = w.heap.size := ⟨_, rfl⟩
  rw [← hkb] at hrow
  have HKB := Lib.hid hkb
  have m1 := cell_of_row _ _ 1 _ _ _ hrow
  simp only [List.getElem?_toArray, List.getElem?_cons_zero, List.getElem?_cons_succ] at m1
  clear hkb hrow
  go_enter Try.func36, Try.ntmps36
  go_upto_region 2 with fail
  rw [HW.out, ← HKB.out]
  clear hk0 d0 d1 d2
  go_wp2_with (first
    | (at_make; refine wpList_make_full _ rfl _ _ 26 rfl w0.heap.size 3 i0 (.int .i64 0) 1 und_ints hi hz0 hz1 _ _ _ _ n rfl rfl rfl rfl (by rw [hz2]; omega) (by unfold maxLen; omega) hlo1 ?_; intro w1 hown hg; (rw [Nat.mul_one, show (Value.int .i64 0).cells = #[Value.int .i64 0] from rfl, toList_madeCells_one] at hown); (have hrw := own_whole hown); (have hbe : Below W1.heap.size W1 w1 := (Below.refl _ _).grown hg (Nat.le_refl _) (by simp)); (have hin1 := HIN.out.later hbe); (have HB1 := Lib.hid (And.intro hbe hown)); clear hown hg hbe m1)
    | (with_reducible refine wpList_copy_splice rfl (.tmp 24) (.tmp 25) 26 26 rfl 3 und_ints (by kernel_rfl) _ _ _ _ _ _ rfl rfl W1.heap.size 0 _ _ hrw cs0 (by rw [hcsl]; exact (Nat.min_eq_left hil).symm) (fun h0 => ⟨rfl, by rw [HCS.out] at h0 ⊢; exact row_src hin1 h0⟩) (by rw [List.length_replicate, hcsl]; omega) (by rw [HCS.out]; exact oneCell_ints _) W1.heap.size w1 (Below.refl _ _) (Nat.le_refl _) ?_; intro w2 HG2 hB2; (have HB2 := Lib.hid hB2); clear hB2 hrw hin1))
  clear hi hz0 hz1 hz2
  obtain ⟨gb, hgb⟩ : ∃ b, b = W1.heap.size := ⟨_, rfl⟩
  rw [← hgb] at HG2 HB1 HB2 ⊢
  have HW2 := Lib.hid (show Below w.heap.size w w2 ∧ w.heap.size ≤ gb ∧ kb < gb ∧ gb < w2.heap.size ∧ w2.heap[kb]? = some (.cells #[.int .i64 params, .int .i64 (n : Int), .slice ba blocks.length bc] 37 (0, 0)) from by
    have h1 := HS1.out
    have h2 := HB1.out.1.trans (HB2.out.mono (by rw [hgb]; exact Nat.le_refl _))
    have h3 := HKB.out
    refine ⟨h1.1.trans (h2.mono (by rw [hgb]; exact h1.1.size)), by omega, by omega, (Array.getElem?_eq_some_iff.1 HG2.out).1, ?_⟩
    rw [h2.block kb (by omega), h3]
    exact h1.2.2.1)
  have HC0 := Lib.hid (show CSt w0 (some ⟨ub, uo, none⟩) us.length uc rb cb gb n D w2 D sv tv w2 (inp ++ List.replicate (n - inp.length) 0) s from by
    have h1 := HS1.out
    have h2 := HB1.out.1.trans (HB2.out.mono (by rw [hgb]; exact Nat.le_refl _))
    have h3 := HG2.out
    rw [HCS.out, regs_start hil] at h3
    exact ⟨h1.2.1.later (h2.mono (by rw [hgb]; exact Nat.le_refl _)), ⟨own_of_whole h3 (by rw [hgb]; exact hlo1) (by simp; omega) (by unfold maxLen; omega), fun hd => by have := HH.out.1.hi _ hd; omega, fun v hv => by
      rcases List.mem_append.1 hv with h | h
      · exact HBY.out v h
      · rw [(List.mem_replicate.1 h).2]; exact byt_zero⟩, Step.refl _ _, HH.out.2.2, HH.out.2.1⟩)
  clear HG2 HB1 HB2 HIN HBY HS1 HCS hcsl hlo1 hgb cs0
  go_loopg [9] (s.left + 1) (fun F i wr => ∃ bn : Nat, i = .int .i64 bn ∧ bn < blocks.length ∧ ∃ regs s' D' sv' tv', Hid (CSt w0 (some ⟨ub, uo, none⟩) us.length uc rb cb gb n D w2 D' sv' tv' wr regs s' ∧ s'.left < F ∧ s'.trace.length + s'.left ≤ 60000 ∧ blockRun doD (codeRun doD predsC us d) predsC ⟨params, (n : Int), blocks⟩ true F bn regs s' = R))
  case atStart => exact ⟨0, rfl, by omega, _, _, _, _, _, Lib.hid ⟨HC0.out, Nat.lt_succ_self _, HTR.out.2, HRB.out⟩⟩
  case round =>
    obtain ⟨bn, rfl, hbn, regs, s1, D1, sv1, tv1, HX⟩ := hrel
    clear HC0 HRB
    obtain ⟨F, rfl⟩ : ∃ F, gk = F + 1 := ⟨gk - 1, by have := HX.out.2.1; omega⟩
    obtain ⟨qb, qo, phis, ins, jump, jon, nx, pa, pc, ia, ic, na, nc, hqa, hx, c0, c1, c2, c3, c4, hBR⟩ := block_place HU.out.1 (i := bn) hbn
    subst hqa
    have hBR0 := hBR
    obtain ⟨pa', pc', ia', ic', na', nc', hcs, -, ⟨⟨him, hinil⟩, hI⟩, ⟨⟨hnm, hnnil⟩, hN⟩⟩ := hBR
    simp only [List.cons.injEq, Value.slice.injEq, and_true, true_and] at hcs
    obtain ⟨-, ⟨rfl, rfl⟩, ⟨rfl, rfl⟩⟩ := hcs
    change SliceRd 4 InsR w0 ia ins.length ins at hI
    change IntsRd w0 na nx.length nx at hN
    have hbs := HX.out.1.st.base
    have e0 := cell_later hbs c0
    have e1 := cell_later hbs c1
    have e2 := cell_later hbs c2
    have e3 := cell_later hbs c3
    have e4 := cell_later hbs c4
    have hnk : ¬ (D kb ∨ kb = gb) := fun hd => hd.elim (fun h2 => by have := HH.out.1.hi _ h2; have := HKB.out; omega) (fun e => by have := HW2.out; omega)
    have hkrow := HX.out.1.step.block HW2.out.2.2.2.2 hnk
    have m2 := cell_of_row _ _ 2 _ _ _ hkrow
    simp only [List.getElem?_toArray, List.getElem?_cons_zero, List.getElem?_cons_succ] at m2
    have hbi : (bn : Int) < (blocks.length : Int) := by omega
    have hblk := (HU.out.2.2.1.code k _ HU.out.2.2.2.2.1).blk bn _ hx
    have hzz := szBlock_parts (szS_get HU.out.2.2.2.2.2 hx).1
    have hilen : ins.length ≤ 1048576 := Nat.le_trans (szS_len szInsD ins) hzz.2.1
    have HBK := Lib.hid (And.intro hx (And.intro hblk (And.intro hI hN)))
    have HCC := Lib.hid (And.intro c0 (And.intro c1 (And.intro c2 (And.intro c3 c4))))
    have hba : Below wr.heap.size wr (wr.alloc (.cells #[.slice pa phis.length pc, .slice ia ins.length ic, .int .i64 jump, .int .i64 jon, .slice na nx.length nc] 41)) := (Below.refl _ _).alloc (Nat.le_refl _) _
    have hrow := heap_alloc_new wr (.cells #[.slice pa phis.length pc, .slice ia ins.length ic, .int .i64 jump, .int .i64 jon, .slice na nx.length nc] 41)
    clear hbs hnk hkrow hx hblk hzz hI hN c0 c1 c2 c3 c4 hBR0 him hinil hnm hnnil
    generalize hWx : (wr.alloc (.cells #[.slice pa phis.length pc, .slice ia ins.length ic, .int .i64 jump, .int .i64 jon, .slice na nx.length nc] 41)) = Wx at hba hrow
    have HWX := Lib.hid hWx
    have HBX := Lib.hid (And.intro hba hrow)
    clear hWx hba hrow
    go_upto_region 6 with fail
    rw [HWX.out]
    obtain ⟨xb, hxb⟩ : ∃ b, b = wr.heap.size := ⟨_, rfl⟩
    rw [← hxb]
    clear m2 e0 e1 e2 e3 e4
    have HSX := Lib.hid (show SSt w0 (some ⟨ub, uo, none⟩) us.length uc rb cb D1 sv1 tv1 Wx s1 ∧ RgSt w0.heap.size gb n D1 Wx regs ∧ Step (fun k => D k ∨ k = gb) w2 (fun k => D1 k ∨ k = gb) Wx from
      ⟨HX.out.1.st.later HBX.out.1, HX.out.1.rg.later HBX.out.1, HX.out.1.step.trans (Step.new HBX.out.1)⟩)
    have HXB := Lib.hid (show Wx.heap[xb]? = some (.cells #[.slice pa phis.length pc, .slice ia ins.length ic, .int .i64 jump, .int .i64 jon, .slice na nx.length nc] 41 (0, 0)) ∧ ¬ (D1 xb ∨ xb = gb) from
      ⟨by rw [hxb]; exact HBX.out.2, fun hd => hd.elim (fun h2 => by have := HX.out.1.st.hi _ h2; omega) (fun e => by have := HX.out.1.rg.lt.2; omega)⟩)
    have HKX := Lib.hid (show Wx.heap[kb]? = some (.cells #[.int .i64 params, .int .i64 (n : Int), .slice (some ⟨qb, qo, none⟩) blocks.length bc] 37 (0, 0)) ∧ ¬ (D1 kb ∨ kb = gb) from by
      have hnk : ¬ (D kb ∨ kb = gb) := fun hd => hd.elim (fun h2 => by have := HH.out.1.hi _ h2; have := HKB.out; omega) (fun e => by have := HW2.out; omega)
      exact ⟨HSX.out.2.2.block HW2.out.2.2.2.2 hnk, HSX.out.2.2.out (by have := HW2.out; omega) hnk⟩)
    have HFIN := Lib.hid (fun (D2 : Nat → Prop) (sv2 tv2 : Value) (wq : World) (v : Int) (s2 : RunS) (hS : SSt w0 (some ⟨ub, uo, none⟩) us.length uc rb cb D2 sv2 tv2 wq s2) (hT : Step (fun k => D1 k ∨ k = gb) Wx (fun k => D2 k ∨ k = gb) wq) (hRv : R = (v, s2)) =>
      show (Ending.returned (.int .i64 v) = Ending.returned (.int .i64 R.1)) ∧ ∃ D' sv' tv', SSt w0 (some ⟨ub, uo, none⟩) us.length uc rb cb D' sv' tv' wq R.2 ∧ Step D w D' wq from by
        rw [hRv]
        exact ⟨rfl, D2, sv2, tv2, hS, Step.base HW2.out.1 (HSX.out.2.2.trans hT) HW2.out.2.1⟩)
    clear hxb
    have k0 := HSX.out.1.cell 0
    simp only [sRow, List.getElem?_toArray, List.getElem?_cons_zero, List.getElem?_cons_succ] at k0
    have hmk : ((k : Int) == (us.length : Int) - 1) = true := by have := HTR.out.1; rw [beq_iff_eq]; omega
    have k7 := HSX.out.1.cell 7
    simp only [sRow, List.getElem?_toArray, List.getElem?_cons_zero, List.getElem?_cons_succ] at k7
    have hb7 : Below Wx.heap.size Wx (Wx.alloc (.cells #[.int .i64 (bn : Int)] 3)) := (Below.refl _ _).alloc (Nat.le_refl _) _
    have HS7 := Lib.hid (HSX.out.1.later hb7)
    have HB7 := Lib.hid hb7
    have htl : s1.trace.length ≤ 60000 := by have := HX.out.2.2.1; omega
    clear hb7
    go_wp2_with (at_builtin; refine app_ints rfl (.tmp 45) (.tmp 47) rfl w0.heap.size tv1 s1.trace.length _ rfl HS7.out.trace _ 1 _ [(bn : Int)] rfl rfl (rowAt_one _ _ _) (by rintro ⟨⟩) (by omega) HS7.out.base.size ?_; intro a5 c5 w5 hown5 hg5 hlies5; have h5 := HS7.out.walk HB7.out HSX.out.1.base.size hown5 hg5 hlies5; have H5 := Lib.hid h5; have k5 := cell_of_row _ _ 7 _ _ _ h5.1; have z5 := frozen_of_row _ _ 7 _ _ h5.1; simp only [sRow, List.getElem?_toArray, List.getElem?_cons_zero, List.getElem?_cons_succ] at k5; clear h5 hown5 hg5 hlies5 k7)
    have HC7 : ∃ Dq tq, Hid (CSt w0 (some ⟨ub, uo, none⟩) us.length uc rb cb gb n D1 Wx Dq sv1 tq (w5.setCell ⟨rb, 7, none⟩ (.slice a5 (s1.trace.length + 1) c5)) regs (addT true s1 bn)) := ⟨_, _, Lib.hid ⟨H5.out.2.1, HSX.out.2.1.stay H5.out.2.2.turned HSX.out.2.1.out (H5.out.2.2.out HSX.out.2.1.lt.2 HSX.out.2.1.out), H5.out.2.2.plus, addT_good HX.out.1.good, HX.out.1.fin⟩⟩
    obtain ⟨Dq, tq, HC7⟩ := HC7
    generalize w5.setCell ⟨rb, 7, none⟩ (.slice a5 (s1.trace.length + 1) c5) = W7 at HC7 ⊢
    clear H5 HS7 HB7 k5 z5 htl hmk k0
    obtain ⟨RI, hRI⟩ : ∃ RI, RI = insAll doD (codeRun doD predsC us d) ins regs (addT true s1 bn) := ⟨_, rfl⟩
    have HRI := Lib.hid hRI
    have hleft : (addT true s1 bn).left = s1.left := addT_left _ _ _
    have HRL := Lib.hid (show RI.2.left ≤ s1.left ∧ RI.2.trace.length = s1.trace.length + 1 from by
      rw [hRI, ← hleft]
      refine ⟨(grow_insAll (doF := doD) (grow_code us d) ins regs (addT true s1 bn)).left, ?_⟩
      rw [insAll_trace ins (fun y hy ho inp s => code_trace us HU.out.2.2.1.callsOk d y.num.toNat inp s (by
        have h1 := ((HBK.out.2.1.ins y hy).call ho)
        have := HTR.out.1
        omega)) regs (addT true s1 bn)]
      show (s1.trace ++ [bn]).length = _
      rw [List.length_append, List.length_singleton])
    clear hRI hleft
    go_loopg [11] ins.length (fun FF i wq => ∃ j : Nat, j + FF = ins.length ∧ i = .int .i64 j ∧ ∃ regs2 s2 D2 sv2 tv2, Hid (CSt w0 (some ⟨ub, uo, none⟩) us.length uc rb cb gb n D1 Wx D2 sv2 tv2 wq regs2 s2 ∧ insAll doD (codeRun doD predsC us d) (ins.drop j) regs2 s2 = RI))
    case atStart => exact ⟨0, by omega, rfl, _, _, _, _, _, Lib.hid ⟨HC7.out, HRI.out.symm⟩⟩
    case round =>
      obtain ⟨j, hj, rfl, regs2, s2, D2, sv2, tv2, HY⟩ := hrel
      clear HC7
      have hxrow := HY.out.1.step.block HXB.out.1 HXB.out.2
      have x1 := cell_of_row _ _ 1 _ _ _ hxrow
      simp only [List.getElem?_toArray, List.getElem?_cons_zero, List.getElem?_cons_succ] at x1
      clear hxrow
      have hl60 : s2.left ≤ 60000 := by have := HY.out.1.good.small; omega
      have HTK := Lib.hid (takeS_any HY.out.1.st hl60)
      have htg := HY.out.1.good.take
      by_cases hlt : j < ins.length
      · obtain ⟨ib, io, op, tq2, args, num, aa, ac, hia, hy, i0, i1, i2, i3, hyR⟩ := ins_place HBK.out.2.2.1 hlt
        have HIA := Lib.hid hia
        subst hia
        have hji : (j : Int) < (ins.length : Int) := by omega
        have HDR := Lib.hid (drop_of hy)
        have hyv := HBK.out.2.1.ins _ (List.mem_of_getElem? hy)
        cases hfin : s2.take.fin with
        | some en =>
          have HF := Lib.hid (HFIN.out)
          rw [show s2.take.fin.isNone = false by rw [hfin]; rfl] at HTK
          have HEN := Lib.hid (show R = (0, s2.take) by
            have h1 := HY.out.2
            rw [HDR.out, insAll_stop1 hfin] at h1
            rw [← HX.out.2.2.2, block_over HBK.out.1 HRI.out.symm (by rw [← h1]; exact hfin), ← h1])
          have HFI := Lib.hid hfin
          clear hfin htg hyv hyR hy
          go_wp2_with fail
          refine HTK.out.mono ?_
          rintro e w3 ⟨rfl, hS3, hT3⟩
          have k6 := hS3.cell 6
          simp only [sRow, List.getElem?_toArray, List.getElem?_cons_zero, List.getElem?_cons_succ] at k6
          rw [HFI.out] at k6
          have HE := Lib.hid (HFIN.out D2 sv2 tv2 w3 0 s2.take hS3 (HY.out.1.step.trans hT3.plus) HEN.out)
          clear hS3 hT3 x1
          go_wp2
          go_ret
          exact HE.out
        | none =>
          rw [show s2.take.fin.isNone = true by rw [hfin]; rfl] at HTK
          have HFI := Lib.hid hfin
          have htl := RunS.take_lt hfin
          have hsm : s2.take.said.length + s2.take.left < 60000 := by rw [take_said]; have := HY.out.1.good.small; omega
          have HG := Lib.hid (And.intro htg (And.intro hsm hyv))
          have HIC := Lib.hid (And.intro i0 (And.intro i1 (And.intro i2 (And.intro i3 hyR))))
          clear hfin htg hyv hyR hy htl hsm i0 i1 i2 i3
          go_wp2_with fail
          refine HTK.out.mono ?_
          rintro e w3 ⟨rfl, hS3, hT3⟩
          have hR3 := HY.out.1.rg.stay hT3.turned HY.out.1.rg.out (hT3.out HY.out.1.rg.lt.2 HY.out.1.rg.out)
          have hx3 := HY.out.1.step.trans hT3.plus
          have hxrow := hx3.block HXB.out.1 HXB.out.2
          have x1 := cell_of_row _ _ 1 _ _ _ hxrow
          simp only [List.getElem?_toArray, List.getElem?_cons_zero, List.getElem?_cons_succ] at x1
          have i0 := cell_later hS3.base HIC.out.1
          have i1 := cell_later hS3.base HIC.out.2.1
          have i2 := cell_later hS3.base HIC.out.2.2.1
          have i3 := cell_later hS3.base HIC.out.2.2.2.1
          have HCALL := Lib.hid (insS_any (c := ⟨params, (n : Int), blocks⟩) HU.out.2.2.1 HU.out.2.2.2.1 hklt HG.out.2.2 _ HIC.out.2.2.2.2 rfl hnn hS3 hR3 HG.out.1 HFI.out HG.out.2.1)
          have HGI := Lib.hid (good_ins (call := codeRun doD predsC us d) doD_ok (good_code doD_ok us HU.out.2.2.1.numOk d) ⟨op, tq2, args, num⟩ (fun ho hn => (HG.out.2.2.num (by
            have h1 := HG.out.2.2.op
            have h2 := HG.out.2.2.arity
            change 1 ≤ op ∧ op ≤ 14 at h1
            change op ≠ 1 → op ≠ 14 → (args.length : Int) = argsN op at h2
            change op ≤ 10 at ho
            change ¬ args.length > 0 at hn
            show op = 1
            by_cases h3 : op = 1
            · exact h3
            · exfalso
              have h4 := h2 h3 (by omega)
              unfold argsN at h4
              rw [if_neg h3] at h4
              split at h4 <;> omega)).2) regs2 s2.take HY.out.1.rg.byts HG.out.1 HG.out.2.1)
          have HX3 := Lib.hid hx3
          clear hS3 hT3 hR3 hx3 hxrow
          obtain ⟨r, hr⟩ : ∃ r, r = insRun doD (codeRun doD predsC us d) ⟨op, tq2, args, num⟩ regs2 s2.take := ⟨_, rfl⟩
          rw [← hr] at HCALL HGI
          have HRR := Lib.hid hr
          clear hr
          change Hid (Calls _ _ #[_, .agg #[.int .i64 op, .int .i64 tq2, .slice aa args.length ac, .int .i64 num], _] _ _) at HCALL
          go_wp2_with fail
          refine HCALL.out.mono ?_
          rintro e w4 ⟨rfl, D4, sv4, tv4, hS4, hR4, hT4⟩
          have k6 := hS4.cell 6
          simp only [sRow, List.getElem?_toArray, List.getElem?_cons_zero, List.getElem?_cons_succ] at k6
          have HX4 := Lib.hid (HX3.out.trans hT4)
          clear x1 i0 i1 i2 i3
          cases hf4 : r.2.fin with
          | some en =>
            rw [hf4] at k6
            have HEN := Lib.hid (show R = (0, r.2) by
              have h1 := HY.out.2
              rw [HDR.out, insAll_stop2 HFI.out (by rw [← HRR.out]; exact hf4), ← HRR.out] at h1
              rw [← HX.out.2.2.2, block_over HBK.out.1 HRI.out.symm (by rw [← h1]; exact hf4), ← h1])
            have HE := Lib.hid (HFIN.out D4 sv4 tv4 w4 0 r.2 hS4 HX4.out HEN.out)
            clear hS4 hR4 hT4 hf4
            go_wp2
            go_ret
            exact HE.out
          | none =>
            rw [hf4] at k6
            have HN := Lib.hid (show CSt w0 (some ⟨ub, uo, none⟩) us.length uc rb cb gb n D1 Wx D4 sv4 tv4 w4 r.1 r.2 ∧ insAll doD (codeRun doD predsC us d) (ins.drop (j + 1)) r.1 r.2 = RI from
              ⟨⟨hS4, hR4, HX4.out, HGI.out.2, hf4⟩, by
                have h1 := HY.out.2
                rw [HDR.out, insAll_go HFI.out (by rw [← HRR.out]; exact hf4), ← HRR.out] at h1
                exact h1⟩)
            clear hS4 hR4 hT4 hf4
            go_wp2
            go_roundg (ins.length - (j + 1))
            case measure => omega
            case rel => exact ⟨j + 1, by omega, by go_num, r.1, r.2, D4, sv4, tv4, HN⟩
      · obtain rfl : j = ins.length := by omega
        have HEQ := Lib.hid (show RI = (regs2, s2) by
          have h1 := HY.out.2
          rw [List.drop_length] at h1
          exact h1.symm)
        cases hfin : s2.take.fin with
        | some en =>
          rw [show s2.take.fin.isNone = false by rw [hfin]; rfl] at HTK
          have HEN := Lib.hid (show R = (0, s2.take) by
            rw [← HX.out.2.2.2, block_fuel HBK.out.1 (HRI.out.symm.trans HEQ.out) HY.out.1.fin hfin])
          clear hfin htg
          go_wp2_with fail
          refine HTK.out.mono ?_
          rintro e w3 ⟨rfl, hS3, hT3⟩
          have HE := Lib.hid (HFIN.out D2 sv2 tv2 w3 0 s2.take hS3 (HY.out.1.step.trans hT3.plus) HEN.out)
          clear hS3 hT3 x1
          go_wp2
          go_ret
          exact HE.out
        | none =>
          rw [show s2.take.fin.isNone = true by rw [hfin]; rfl] at HTK
          have HFI := Lib.hid hfin
          have HG := Lib.hid (And.intro htg (RunS.take_lt hfin))
          have HCS := Lib.hid (show ∀ w3, SSt w0 (some ⟨ub, uo, none⟩) us.length uc rb cb D2 sv2 tv2 w3 s2.take → Step D2 wr D2 w3 → CSt w0 (some ⟨ub, uo, none⟩) us.length uc rb cb gb n D w2 D2 sv2 tv2 w3 regs2 s2.take ∧ w3.heap[xb]? = some (.cells #[.slice pa phis.length pc, .slice ia ins.length ic, .int .i64 jump, .int .i64 jon, .slice na nx.length nc] 41 (0, 0)) ∧ w3.heap[kb]? = some (.cells #[.int .i64 params, .int .i64 (n : Int), .slice (some ⟨qb, qo, none⟩) blocks.length bc] 37 (0, 0)) ∧ Step (fun k => D1 k ∨ k = gb) Wx (fun k => D2 k ∨ k = gb) w3 from fun w3 hS3 hT3 => by
            have hx3 := HY.out.1.step.trans hT3.plus
            exact ⟨⟨hS3, HY.out.1.rg.stay hT3.turned HY.out.1.rg.out (hT3.out HY.out.1.rg.lt.2 HY.out.1.rg.out), HSX.out.2.2.trans hx3, HG.out.1, HFI.out⟩, hx3.block HXB.out.1 HXB.out.2, hx3.block HKX.out.1 HKX.out.2, hx3⟩)
          clear hfin htg
          go_wp2_with fail
          refine HTK.out.mono ?_
          rintro e w3 ⟨rfl, hS3, hT3⟩
          obtain ⟨hC3, hxrow, hkrow, hx3⟩ := HCS.out w3 hS3 hT3
          have HC3 := Lib.hid (And.intro hC3 hx3)
          have x2 := cell_of_row _ _ 2 _ _ _ hxrow
          have x3 := cell_of_row _ _ 3 _ _ _ hxrow
          have x4 := cell_of_row _ _ 4 _ _ _ hxrow
          have m0 := cell_of_row _ _ 0 _ _ _ hkrow
          have m1 := cell_of_row _ _ 1 _ _ _ hkrow
          have m2 := cell_of_row _ _ 2 _ _ _ hkrow
          simp only [List.getElem?_toArray, List.getElem?_cons_zero, List.getElem?_cons_succ] at x2 x3 x4 m0 m1 m2
          clear hC3 hxrow hkrow hx3 hS3 hT3 x1
          rcases HBK.out.2.1.jump with ⟨hj1, hnl⟩ | ⟨hj2, hnl⟩ | ⟨hj3, hnl⟩
          · obtain rfl : jump = 1 := hj1
            change nx.length = 1 at hnl
            have HNL := Lib.hid hnl
            rw [hnl] at x4
            obtain ⟨nb, no, y0, hna, hy0, n0⟩ := HBK.out.2.2.2.place (i := 0) (by omega)
            subst hna
            rw [Nat.add_zero] at n0
            have n0 := cell_later HC3.out.1.st.base n0
            have HNX := Lib.hid (show ∀ nn : Nat, y0 = (nn : Int) → nextOf ⟨phis, ins, 1, jon, nx⟩ regs2 = nn from fun nn e => by
              unfold nextOf
              rw [if_pos (.inl rfl)]
              show (nx.getD 0 0).toNat = nn
              rw [List.getD_eq_getElem?_getD, hy0, e]; rfl)
            have HJ := Lib.hid (show (1 : Int) ≠ 3 by omega)
            clear hnl
            have hyr := HBK.out.2.1.nx y0 (List.mem_of_getElem? hy0)
            change 1 ≤ y0 ∧ y0 < (blocks.length : Int) at hyr
            obtain ⟨nn, rfl⟩ : ∃ i : Nat, y0 = (i : Int) := ⟨y0.toNat, by omega⟩
            have hnb : nn < blocks.length := by omega
            obtain ⟨y, hyb⟩ : ∃ y, blocks[nn]? = some y := ⟨_, List.getElem?_eq_getElem hnb⟩
            have hyv := (HU.out.2.2.1.code k _ HU.out.2.2.2.2.1).blk nn y hyb
            have HPH := Lib.hid (phisS_any (rb := rb) (params := params) (rgs := (n : Int)) (bc := bc) (fr := bn) HU.out.1 HU.out.2.1 hyb (fun f hf => by
              have h1 := hyv.phis f hf
              exact ⟨h1.2.1, h1.2.2.1, h1.2.2.2⟩) (preds_mem HBK.out.1 (List.mem_of_getElem? hy0)) (by
              have h1 := szBlock_parts (szS_get HU.out.2.2.2.2.2 hyb).1
              exact Nat.le_trans (szS_len szPhiD _) h1.1) hcb.2 hnn HC3.out.1.st.base HC3.out.1.rg)
            have HRN := Lib.hid (show blockRun doD (codeRun doD predsC us d) predsC ⟨params, (n : Int), blocks⟩ true F nn (phiAll y.phis ((predsC ⟨params, (n : Int), blocks⟩ nn).idxOf (bn : Int)) regs2) s2.take = R from by
              rw [← HX.out.2.2.2, block_next HBK.out.1 (HRI.out.symm.trans HEQ.out) HY.out.1.fin HFI.out HJ.out (HNX.out nn rfl) hyb])
            clear hy0 hyr hyv hyb
            go_wp2_with fail
            refine HPH.out.mono ?_
            rintro e w4 ⟨rfl, hR4, hT4⟩
            have HN := Lib.hid (show CSt w0 (some ⟨ub, uo, none⟩) us.length uc rb cb gb n D w2 D2 sv2 tv2 w4 (phiAll y.phis ((predsC ⟨params, (n : Int), blocks⟩ nn).idxOf (bn : Int)) regs2) s2.take ∧ s2.take.left < F ∧ s2.take.trace.length + s2.take.left ≤ 60000 ∧ blockRun doD (codeRun doD predsC us d) predsC ⟨params, (n : Int), blocks⟩ true F nn (phiAll y.phis ((predsC ⟨params, (n : Int), blocks⟩ nn).idxOf (bn : Int)) regs2) s2.take = R from by
              have h1 := HRL.out
              rw [HEQ.out] at h1
              have h2 := HX.out.2.1
              have h3 := HG.out.2
              dsimp only at h1
              refine ⟨⟨HC3.out.1.st.stay hT4 (fun k hk => by subst hk; exact ⟨HC3.out.1.rg.out, HC3.out.1.rg.lt.1⟩), hR4, HC3.out.1.step.trans ⟨hT4.mono (fun k hk => .inr hk), fun _ _ h => h⟩, HG.out.1, HFI.out⟩, by omega, by rw [take_trace]; have := HX.out.2.2.1; omega, HRN.out⟩)
            clear hR4 hT4
            go_wp2
            go_roundg F
            case measure => omega
            case rel => exact ⟨nn, by go_num, hnb, _, _, _, _, _, HN⟩
          · obtain rfl : jump = 2 := hj2
            change nx.length = 2 at hnl
            have HNL := Lib.hid hnl
            rw [hnl] at x4
            have hjon := HBK.out.2.1.jon rfl
            change 0 ≤ jon ∧ jon < (n : Int) at hjon
            obtain ⟨jj, rfl⟩ : ∃ i : Nat, jon = (i : Int) := ⟨jon.toNat, by omega⟩
            have hjn : (jj : Int) < (n : Int) := hjon.2
            have rj := HC3.out.1.rg.at (j := jj) (by omega)
            have HJ := Lib.hid (show (2 : Int) ≠ 3 by omega)
            by_cases hv : atI regs2 (jj : Int) = 0
            · obtain ⟨nb, no, y0, hna, hy0, n0⟩ := HBK.out.2.2.2.place (i := 1) (by omega)
              subst hna
              have n0 := cell_later HC3.out.1.st.base n0
              rw [hv] at rj
              have HNX := Lib.hid (show ∀ nn : Nat, y0 = (nn : Int) → nextOf ⟨phis, ins, 2, (jj : Int), nx⟩ regs2 = nn from fun nn e => by
                unfold nextOf
                rw [if_neg (by rintro (h | h); · cases h
                               · exact h hv)]
                show (nx.getD 1 0).toNat = nn
                rw [List.getD_eq_getElem?_getD, hy0, e]; rfl)
              clear hnl hv hjon
              have hyr := HBK.out.2.1.nx y0 (List.mem_of_getElem? hy0)
              change 1 ≤ y0 ∧ y0 < (blocks.length : Int) at hyr
              obtain ⟨nn, rfl⟩ : ∃ i : Nat, y0 = (i : Int) := ⟨y0.toNat, by omega⟩
              have hnb : nn < blocks.length := by omega
              obtain ⟨y, hyb⟩ : ∃ y, blocks[nn]? = some y := ⟨_, List.getElem?_eq_getElem hnb⟩
              have hyv := (HU.out.2.2.1.code k _ HU.out.2.2.2.2.1).blk nn y hyb
              have HPH := Lib.hid (phisS_any (rb := rb) (params := params) (rgs := (n : Int)) (bc := bc) (fr := bn) HU.out.1 HU.out.2.1 hyb (fun f hf => by
                have h1 := hyv.phis f hf
                exact ⟨h1.2.1, h1.2.2.1, h1.2.2.2⟩) (preds_mem HBK.out.1 (List.mem_of_getElem? hy0)) (by
                have h1 := szBlock_parts (szS_get HU.out.2.2.2.2.2 hyb).1
                exact Nat.le_trans (szS_len szPhiD _) h1.1) hcb.2 hnn HC3.out.1.st.base HC3.out.1.rg)
              have HRN := Lib.hid (show blockRun doD (codeRun doD predsC us d) predsC ⟨params, (n : Int), blocks⟩ true F nn (phiAll y.phis ((predsC ⟨params, (n : Int), blocks⟩ nn).idxOf (bn : Int)) regs2) s2.take = R from by
                rw [← HX.out.2.2.2, block_next HBK.out.1 (HRI.out.symm.trans HEQ.out) HY.out.1.fin HFI.out HJ.out (HNX.out nn rfl) hyb])
              clear hy0 hyr hyv hyb
              go_wp2_with fail
              refine HPH.out.mono ?_
              rintro e w4 ⟨rfl, hR4, hT4⟩
              have HN := Lib.hid (show CSt w0 (some ⟨ub, uo, none⟩) us.length uc rb cb gb n D w2 D2 sv2 tv2 w4 (phiAll y.phis ((predsC ⟨params, (n : Int), blocks⟩ nn).idxOf (bn : Int)) regs2) s2.take ∧ s2.take.left < F ∧ s2.take.trace.length + s2.take.left ≤ 60000 ∧ blockRun doD (codeRun doD predsC us d) predsC ⟨params, (n : Int), blocks⟩ true F nn (phiAll y.phis ((predsC ⟨params, (n : Int), blocks⟩ nn).idxOf (bn : Int)) regs2) s2.take = R from by
                have h1 := HRL.out
                rw [HEQ.out] at h1
                have h2 := HX.out.2.1
                have h3 := HG.out.2
                dsimp only at h1
                refine ⟨⟨HC3.out.1.st.stay hT4 (fun k hk => by subst hk; exact ⟨HC3.out.1.rg.out, HC3.out.1.rg.lt.1⟩), hR4, HC3.out.1.step.trans ⟨hT4.mono (fun k hk => .inr hk), fun _ _ h => h⟩, HG.out.1, HFI.out⟩, by omega, by rw [take_trace]; have := HX.out.2.2.1; omega, HRN.out⟩)
              clear hR4 hT4
              go_wp2
              go_roundg F
              case measure => omega
              case rel => exact ⟨nn, by go_num, hnb, _, _, _, _, _, HN⟩
            · obtain ⟨nb, no, y0, hna, hy0, n0⟩ := HBK.out.2.2.2.place (i := 0) (by omega)
              subst hna
              rw [Nat.add_zero] at n0
              have n0 := cell_later HC3.out.1.st.base n0
              have HNX := Lib.hid (show ∀ nn : Nat, y0 = (nn : Int) → nextOf ⟨phis, ins, 2, (jj : Int), nx⟩ regs2 = nn from fun nn e => by
                unfold nextOf
                rw [if_pos (.inr hv)]
                show (nx.getD 0 0).toNat = nn
                rw [List.getD_eq_getElem?_getD, hy0, e]; rfl)
              have hvn : (atI regs2 (jj : Int) != 0) = true := by simpa using hv
              generalize atI regs2 (jj : Int) = vv at rj hvn
              clear hnl hv hjon
              have hyr := HBK.out.2.1.nx y0 (List.mem_of_getElem? hy0)
              change 1 ≤ y0 ∧ y0 < (blocks.length : Int) at hyr
              obtain ⟨nn, rfl⟩ : ∃ i : Nat, y0 = (i : Int) := ⟨y0.toNat, by omega⟩
              have hnb : nn < blocks.length := by omega
              obtain ⟨y, hyb⟩ : ∃ y, blocks[nn]? = some y := ⟨_, List.getElem?_eq_getElem hnb⟩
              have hyv := (HU.out.2.2.1.code k _ HU.out.2.2.2.2.1).blk nn y hyb
              have HPH := Lib.hid (phisS_any (rb := rb) (params := params) (rgs := (n : Int)) (bc := bc) (fr := bn) HU.out.1 HU.out.2.1 hyb (fun f hf => by
                have h1 := hyv.phis f hf
                exact ⟨h1.2.1, h1.2.2.1, h1.2.2.2⟩) (preds_mem HBK.out.1 (List.mem_of_getElem? hy0)) (by
                have h1 := szBlock_parts (szS_get HU.out.2.2.2.2.2 hyb).1
                exact Nat.le_trans (szS_len szPhiD _) h1.1) hcb.2 hnn HC3.out.1.st.base HC3.out.1.rg)
              have HRN := Lib.hid (show blockRun doD (codeRun doD predsC us d) predsC ⟨params, (n : Int), blocks⟩ true F nn (phiAll y.phis ((predsC ⟨params, (n : Int), blocks⟩ nn).idxOf (bn : Int)) regs2) s2.take = R from by
                rw [← HX.out.2.2.2, block_next HBK.out.1 (HRI.out.symm.trans HEQ.out) HY.out.1.fin HFI.out HJ.out (HNX.out nn rfl) hyb])
              clear hy0 hyr hyv hyb
              go_wp2_with fail
              refine HPH.out.mono ?_
              rintro e w4 ⟨rfl, hR4, hT4⟩
              have HN := Lib.hid (show CSt w0 (some ⟨ub, uo, none⟩) us.length uc rb cb gb n D w2 D2 sv2 tv2 w4 (phiAll y.phis ((predsC ⟨params, (n : Int), blocks⟩ nn).idxOf (bn : Int)) regs2) s2.take ∧ s2.take.left < F ∧ s2.take.trace.length + s2.take.left ≤ 60000 ∧ blockRun doD (codeRun doD predsC us d) predsC ⟨params, (n : Int), blocks⟩ true F nn (phiAll y.phis ((predsC ⟨params, (n : Int), blocks⟩ nn).idxOf (bn : Int)) regs2) s2.take = R from by
                have h1 := HRL.out
                rw [HEQ.out] at h1
                have h2 := HX.out.2.1
                have h3 := HG.out.2
                dsimp only at h1
                refine ⟨⟨HC3.out.1.st.stay hT4 (fun k hk => by subst hk; exact ⟨HC3.out.1.rg.out, HC3.out.1.rg.lt.1⟩), hR4, HC3.out.1.step.trans ⟨hT4.mono (fun k hk => .inr hk), fun _ _ h => h⟩, HG.out.1, HFI.out⟩, by omega, by rw [take_trace]; have := HX.out.2.2.1; omega, HRN.out⟩)
              clear hR4 hT4
              go_wp2
              go_roundg F
              case measure => omega
              case rel => exact ⟨nn, by go_num, hnb, _, _, _, _, _, HN⟩
          · obtain rfl : jump = 3 := hj3
            have hjon := HBK.out.2.1.jon rfl
            change 0 ≤ jon ∧ jon < (n : Int) at hjon
            obtain ⟨jj, rfl⟩ : ∃ i : Nat, jon = (i : Int) := ⟨jon.toNat, by omega⟩
            have hjn : (jj : Int) < (n : Int) := hjon.2
            have rj := HC3.out.1.rg.at (j := jj) (by omega)
            have HEN := Lib.hid (show R = (atI regs2 (jj : Int), s2.take) by
              rw [← HX.out.2.2.2, block_back HBK.out.1 (HRI.out.symm.trans HEQ.out) HY.out.1.fin HFI.out rfl])
            have HE := Lib.hid (HFIN.out D2 sv2 tv2 w3 _ s2.take HC3.out.1.st HC3.out.2 HEN.out)
            generalize atI regs2 (jj : Int) = v at rj HE
            clear hnl hjon
            go_wp2
            go_ret
            exact HE.out

set_option maxRecDepth 100000 in
set_option maxHeartbeats 8000000 in
theorem codeS_sub {c : CodeD} {inp : List Int} {ia : Option Addr} {ic : Nat} (hV : UnitV us) (hsz : szS szCodeD us ≤ 1048576) (hU : SliceRd 3 CodeR w0 ua us.length us) (hC : CodeC w0 us ua uc rb cb d k) (hk : us[k]? = some c) (hmain : k + 1 < us.length)
    (hinp : (inp.length : Int) = c.params) (hin : IntsRd w ia inp.length inp) (hby : Byts inp) (h : SSt w0 ua us.length uc rb cb D sv tv w s) (hf : s.fin = none) (hs : Good s) :
    Calls Try.prog 36 #[.pointer (some ⟨rb, 0, none⟩), .int .i64 (k : Int), .slice ia inp.length ic] w fun e w' => e = .returned (.int .i64 (codeRun doD predsC us (d + 1) k inp s).1) ∧
      ∃ D' sv' tv', SSt w0 ua us.length uc rb cb D' sv' tv' w' (codeRun doD predsC us (d + 1) k inp s).2 ∧ Step D w D' w' := by
  have hklt := (List.getElem?_eq_some_iff.1 hk).1
  obtain ⟨ub, uo, params, rgs, blocks, ba, bc, hua, hk2, c0, c1, c2, hCR⟩ := code_place hU hklt
  subst hua
  rw [hk] at hk2
  cases hk2
  have hG := gr_of_code hCR (szS_get hsz hk).1
  obtain ⟨ba2, bc2, hcs, ⟨hbm, hbn⟩, hB⟩ := hCR
  simp only [List.cons.injEq, Value.slice.injEq, and_true, true_and] at hcs
  obtain ⟨rfl, rfl⟩ := hcs
  change SliceRd 5 BlockR w0 ba blocks.length blocks at hB
  obtain ⟨ba3, bc3, hcs, hG⟩ := hG
  simp only [List.cons.injEq, Value.slice.injEq, and_true, true_and] at hcs
  obtain ⟨rfl, -⟩ := hcs
  have hcv := hV.code k _ hk
  have hcr := hcv.regs
  have hcp := hcv.params
  have hcb := hcv.blocks
  simp only at hcr hcp hcb hinp
  obtain ⟨n, rfl⟩ : ∃ n : Nat, rgs = (n : Int) := ⟨rgs.toNat, by omega⟩
  have hcz : szS szBlockD blocks ≤ 1048576 := (szS_get hsz hk).1
  have hus := hV.len
  obtain ⟨R, hR⟩ : ∃ R, R = codeRun doD predsC us (d + 1) k inp s := ⟨_, rfl⟩
  rw [← hR]
  have hRB : blockRun doD (codeRun doD predsC us d) predsC ⟨params, (n : Int), blocks⟩ false (s.left + 1) 0 (inp ++ List.replicate (n - inp.length) 0) s = R := by
    rw [hR]
    conv => rhs; unfold codeRun
    dsimp only
    rw [List.getD_eq_getElem?_getD, hk, Option.getD_some, show (k + 1 == us.length) = false by simp; omega]
    rfl
  have hba : Below w.heap.size w (w.alloc (.cells #[.int .i64 params, .int .i64 (n : Int), .slice ba blocks.length bc] 37)) := (Below.refl _ _).alloc (Nat.le_refl _) _
  have hrow := heap_alloc_new w (.cells #[.int .i64 params, .int .i64 (n : Int), .slice ba blocks.length bc] 37)
  have hS1 := h.later hba
  have hk0 := h.cell 0
  simp only [sRow, List.getElem?_toArray, List.getElem?_cons_zero] at hk0
  have d0 := cell_later h.base c0
  have d1 := cell_later h.base c1
  have d2 := cell_later h.base c2
  have hkl : (k : Int) < (us.length : Int) := by omega
  have hnn : n ≤ 300 := by omega
  have hil : inp.length ≤ n := by omega
  have HU := Lib.hid (And.intro hB (And.intro hG (And.intro hV (And.intro hC (And.intro hk hcz)))))
  have HIN := Lib.hid (hin.later hba)
  have HBY := Lib.hid hby
  have HH := Lib.hid (And.intro h (And.intro hf hs))
  have HRB := Lib.hid hRB
  have HR := Lib.hid hR
  have HTR := Lib.hid hmain
  generalize hW : (w.alloc (.cells #[.int .i64 params, .int .i64 (n : Int), .slice ba blocks.length bc] 37)) = W1 at hba hrow hS1 HIN
  have HW := Lib.hid hW
  have hW1 : W1.heap.size = w.heap.size + 1 := by rw [← hW, World.size_alloc]
  have HS1 := Lib.hid (And.intro hba (And.intro hS1 (And.intro hrow hW1)))
  clear hW1
  obtain ⟨i0, hi, hz0, hz1, hz2⟩ := info_parts info_int
  have hlo1 : w0.heap.size ≤ W1.heap.size := hS1.base.size
  obtain ⟨cs0, hcs0⟩ : ∃ X, X = inp.map (Value.int .i64) := ⟨_, rfl⟩
  have HCS := Lib.hid hcs0
  have hcsl : cs0.length = inp.length := by rw [hcs0, List.length_map]
  clear hR hRB h hf hs hin hby hU hC hk hV hsz hB hG hcv hbm hbn hW hS1 c0 c1 c2 hcs0 hcz hinp hba hmain
  obtain ⟨kb, hkb⟩ : ∃ b, b = w.heap.size := ⟨_, rfl⟩
  rw [← hkb] at hrow
  have HKB := Lib.hid hkb
  have m1 := cell_of_row _ _ 1 _ _ _ hrow
  simp only [List.getElem?_toArray, List.getElem?_cons_zero, List.getElem?_cons_succ] at m1
  clear hkb hrow
  go_enter Try.func36, Try.ntmps36
  go_upto_region 2 with fail
  rw [HW.out, ← HKB.out]
  clear hk0 d0 d1 d2
  go_wp2_with (first
    | (at_make; refine wpList_make_full _ rfl _ _ 26 rfl w0.heap.size 3 i0 (.int .i64 0) 1 und_ints hi hz0 hz1 _ _ _ _ n rfl rfl rfl rfl (by rw [hz2]; omega) (by unfold maxLen; omega) hlo1 ?_; intro w1 hown hg; (rw [Nat.mul_one, show (Value.int .i64 0).cells = #[Value.int .i64 0] from rfl, toList_madeCells_one] at hown); (have hrw := own_whole hown); (have hbe : Below W1.heap.size W1 w1 := (Below.refl _ _).grown hg (Nat.le_refl _) (by simp)); (have hin1 := HIN.out.later hbe); (have HB1 := Lib.hid (And.intro hbe hown)); clear hown hg hbe m1)
    | (with_reducible refine wpList_copy_splice rfl (.tmp 24) (.tmp 25) 26 26 rfl 3 und_ints (by kernel_rfl) _ _ _ _ _ _ rfl rfl W1.heap.size 0 _ _ hrw cs0 (by rw [hcsl]; exact (Nat.min_eq_left hil).symm) (fun h0 => ⟨rfl, by rw [HCS.out] at h0 ⊢; exact row_src hin1 h0⟩) (by rw [List.length_replicate, hcsl]; omega) (by rw [HCS.out]; exact oneCell_ints _) W1.heap.size w1 (Below.refl _ _) (Nat.le_refl _) ?_; intro w2 HG2 hB2; (have HB2 := Lib.hid hB2); clear hB2 hrw hin1))
  clear hi hz0 hz1 hz2
  obtain ⟨gb, hgb⟩ : ∃ b, b = W1.heap.size := ⟨_, rfl⟩
  rw [← hgb] at HG2 HB1 HB2 ⊢
  have HW2 := Lib.hid (show Below w.heap.size w w2 ∧ w.heap.size ≤ gb ∧ kb < gb ∧ gb < w2.heap.size ∧ w2.heap[kb]? = some (.cells #[.int .i64 params, .int .i64 (n : Int), .slice ba blocks.length bc] 37 (0, 0)) from by
    have h1 := HS1.out
    have h2 := HB1.out.1.trans (HB2.out.mono (by rw [hgb]; exact Nat.le_refl _))
    have h3 := HKB.out
    refine ⟨h1.1.trans (h2.mono (by rw [hgb]; exact h1.1.size)), by omega, by omega, (Array.getElem?_eq_some_iff.1 HG2.out).1, ?_⟩
    rw [h2.block kb (by omega), h3]
    exact h1.2.2.1)
  have HC0 := Lib.hid (show CSt w0 (some ⟨ub, uo, none⟩) us.length uc rb cb gb n D w2 D sv tv w2 (inp ++ List.replicate (n - inp.length) 0) s from by
    have h1 := HS1.out
    have h2 := HB1.out.1.trans (HB2.out.mono (by rw [hgb]; exact Nat.le_refl _))
    have h3 := HG2.out
    rw [HCS.out, regs_start hil] at h3
    exact ⟨h1.2.1.later (h2.mono (by rw [hgb]; exact Nat.le_refl _)), ⟨own_of_whole h3 (by rw [hgb]; exact hlo1) (by simp; omega) (by unfold maxLen; omega), fun hd => by have := HH.out.1.hi _ hd; omega, fun v hv => by
      rcases List.mem_append.1 hv with h | h
      · exact HBY.out v h
      · rw [(List.mem_replicate.1 h).2]; exact byt_zero⟩, Step.refl _ _, HH.out.2.2, HH.out.2.1⟩)
  clear HG2 HB1 HB2 HIN HBY HS1 HCS hcsl hlo1 hgb cs0
  go_loopg [9] (s.left + 1) (fun F i wr => ∃ bn : Nat, i = .int .i64 bn ∧ bn < blocks.length ∧ ∃ regs s' D' sv' tv', Hid (CSt w0 (some ⟨ub, uo, none⟩) us.length uc rb cb gb n D w2 D' sv' tv' wr regs s' ∧ s'.left < F ∧ blockRun doD (codeRun doD predsC us d) predsC ⟨params, (n : Int), blocks⟩ false F bn regs s' = R))
  case atStart => exact ⟨0, rfl, by omega, _, _, _, _, _, Lib.hid ⟨HC0.out, Nat.lt_succ_self _, HRB.out⟩⟩
  case round =>
    obtain ⟨bn, rfl, hbn, regs, s1, D1, sv1, tv1, HX⟩ := hrel
    clear HC0 HRB
    obtain ⟨F, rfl⟩ : ∃ F, gk = F + 1 := ⟨gk - 1, by have := HX.out.2.1; omega⟩
    obtain ⟨qb, qo, phis, ins, jump, jon, nx, pa, pc, ia, ic, na, nc, hqa, hx, c0, c1, c2, c3, c4, hBR⟩ := block_place HU.out.1 (i := bn) hbn
    subst hqa
    have hBR0 := hBR
    obtain ⟨pa', pc', ia', ic', na', nc', hcs, -, ⟨⟨him, hinil⟩, hI⟩, ⟨⟨hnm, hnnil⟩, hN⟩⟩ := hBR
    simp only [List.cons.injEq, Value.slice.injEq, and_true, true_and] at hcs
    obtain ⟨-, ⟨rfl, rfl⟩, ⟨rfl, rfl⟩⟩ := hcs
    change SliceRd 4 InsR w0 ia ins.length ins at hI
    change IntsRd w0 na nx.length nx at hN
    have hbs := HX.out.1.st.base
    have e0 := cell_later hbs c0
    have e1 := cell_later hbs c1
    have e2 := cell_later hbs c2
    have e3 := cell_later hbs c3
    have e4 := cell_later hbs c4
    have hnk : ¬ (D kb ∨ kb = gb) := fun hd => hd.elim (fun h2 => by have := HH.out.1.hi _ h2; have := HKB.out; omega) (fun e => by have := HW2.out; omega)
    have hkrow := HX.out.1.step.block HW2.out.2.2.2.2 hnk
    have m2 := cell_of_row _ _ 2 _ _ _ hkrow
    simp only [List.getElem?_toArray, List.getElem?_cons_zero, List.getElem?_cons_succ] at m2
    have hbi : (bn : Int) < (blocks.length : Int) := by omega
    have hblk := (HU.out.2.2.1.code k _ HU.out.2.2.2.2.1).blk bn _ hx
    have hzz := szBlock_parts (szS_get HU.out.2.2.2.2.2 hx).1
    have hilen : ins.length ≤ 1048576 := Nat.le_trans (szS_len szInsD ins) hzz.2.1
    have HBK := Lib.hid (And.intro hx (And.intro hblk (And.intro hI hN)))
    have HCC := Lib.hid (And.intro c0 (And.intro c1 (And.intro c2 (And.intro c3 c4))))
    have hba : Below wr.heap.size wr (wr.alloc (.cells #[.slice pa phis.length pc, .slice ia ins.length ic, .int .i64 jump, .int .i64 jon, .slice na nx.length nc] 41)) := (Below.refl _ _).alloc (Nat.le_refl _) _
    have hrow := heap_alloc_new wr (.cells #[.slice pa phis.length pc, .slice ia ins.length ic, .int .i64 jump, .int .i64 jon, .slice na nx.length nc] 41)
    clear hbs hnk hkrow hx hblk hzz hI hN c0 c1 c2 c3 c4 hBR0 him hinil hnm hnnil
    generalize hWx : (wr.alloc (.cells #[.slice pa phis.length pc, .slice ia ins.length ic, .int .i64 jump, .int .i64 jon, .slice na nx.length nc] 41)) = Wx at hba hrow
    have HWX := Lib.hid hWx
    have HBX := Lib.hid (And.intro hba hrow)
    clear hWx hba hrow
    go_upto_region 6 with fail
    rw [HWX.out]
    obtain ⟨xb, hxb⟩ : ∃ b, b = wr.heap.size := ⟨_, rfl⟩
    rw [← hxb]
    clear m2 e0 e1 e2 e3 e4
    have HSX := Lib.hid (show SSt w0 (some ⟨ub, uo, none⟩) us.length uc rb cb D1 sv1 tv1 Wx s1 ∧ RgSt w0.heap.size gb n D1 Wx regs ∧ Step (fun k => D k ∨ k = gb) w2 (fun k => D1 k ∨ k = gb) Wx from
      ⟨HX.out.1.st.later HBX.out.1, HX.out.1.rg.later HBX.out.1, HX.out.1.step.trans (Step.new HBX.out.1)⟩)
    have HXB := Lib.hid (show Wx.heap[xb]? = some (.cells #[.slice pa phis.length pc, .slice ia ins.length ic, .int .i64 jump, .int .i64 jon, .slice na nx.length nc] 41 (0, 0)) ∧ ¬ (D1 xb ∨ xb = gb) from
      ⟨by rw [hxb]; exact HBX.out.2, fun hd => hd.elim (fun h2 => by have := HX.out.1.st.hi _ h2; omega) (fun e => by have := HX.out.1.rg.lt.2; omega)⟩)
    have HKX := Lib.hid (show Wx.heap[kb]? = some (.cells #[.int .i64 params, .int .i64 (n : Int), .slice (some ⟨qb, qo, none⟩) blocks.length bc] 37 (0, 0)) ∧ ¬ (D1 kb ∨ kb = gb) from by
      have hnk : ¬ (D kb ∨ kb = gb) := fun hd => hd.elim (fun h2 => by have := HH.out.1.hi _ h2; have := HKB.out; omega) (fun e => by have := HW2.out; omega)
      exact ⟨HSX.out.2.2.block HW2.out.2.2.2.2 hnk, HSX.out.2.2.out (by have := HW2.out; omega) hnk⟩)
    have HFIN := Lib.hid (fun (D2 : Nat → Prop) (sv2 tv2 : Value) (wq : World) (v : Int) (s2 : RunS) (hS : SSt w0 (some ⟨ub, uo, none⟩) us.length uc rb cb D2 sv2 tv2 wq s2) (hT : Step (fun k => D1 k ∨ k = gb) Wx (fun k => D2 k ∨ k = gb) wq) (hRv : R = (v, s2)) =>
      show (Ending.returned (.int .i64 v) = Ending.returned (.int .i64 R.1)) ∧ ∃ D' sv' tv', SSt w0 (some ⟨ub, uo, none⟩) us.length uc rb cb D' sv' tv' wq R.2 ∧ Step D w D' wq from by
        rw [hRv]
        exact ⟨rfl, D2, sv2, tv2, hS, Step.base HW2.out.1 (HSX.out.2.2.trans hT) HW2.out.2.1⟩)
    clear hxb
    have k0 := HSX.out.1.cell 0
    simp only [sRow, List.getElem?_toArray, List.getElem?_cons_zero, List.getElem?_cons_succ] at k0
    have hmk : ((k : Int) == (us.length : Int) - 1) = false := by have := HTR.out; rw [beq_eq_false_iff_ne]; omega
    go_wp2
    have HC7 : ∃ Dq tq, Hid (CSt w0 (some ⟨ub, uo, none⟩) us.length uc rb cb gb n D1 Wx Dq sv1 tq Wx regs (addT false s1 bn)) := ⟨D1, tv1, Lib.hid ⟨HSX.out.1, HSX.out.2.1, Step.refl _ _, addT_good HX.out.1.good, HX.out.1.fin⟩⟩
    obtain ⟨Dq, tq, HC7⟩ := HC7
    clear hmk k0
    obtain ⟨RI, hRI⟩ : ∃ RI, RI = insAll doD (codeRun doD predsC us d) ins regs (addT false s1 bn) := ⟨_, rfl⟩
    have HRI := Lib.hid hRI
    have hleft : (addT false s1 bn).left = s1.left := addT_left _ _ _
    have HRL := Lib.hid (show RI.2.left ≤ s1.left from by
      rw [hRI, ← hleft]
      exact (grow_insAll (doF := doD) (grow_code us d) ins regs (addT false s1 bn)).left)
    clear hRI hleft
    go_loopg [11] ins.length (fun FF i wq => ∃ j : Nat, j + FF = ins.length ∧ i = .int .i64 j ∧ ∃ regs2 s2 D2 sv2 tv2, Hid (CSt w0 (some ⟨ub, uo, none⟩) us.length uc rb cb gb n D1 Wx D2 sv2 tv2 wq regs2 s2 ∧ insAll doD (codeRun doD predsC us d) (ins.drop j) regs2 s2 = RI))
    case atStart => exact ⟨0, by omega, rfl, _, _, _, _, _, Lib.hid ⟨HC7.out, HRI.out.symm⟩⟩
    case round =>
      obtain ⟨j, hj, rfl, regs2, s2, D2, sv2, tv2, HY⟩ := hrel
      clear HC7
      have hxrow := HY.out.1.step.block HXB.out.1 HXB.out.2
      have x1 := cell_of_row _ _ 1 _ _ _ hxrow
      simp only [List.getElem?_toArray, List.getElem?_cons_zero, List.getElem?_cons_succ] at x1
      clear hxrow
      have hl60 : s2.left ≤ 60000 := by have := HY.out.1.good.small; omega
      have HTK := Lib.hid (takeS_any HY.out.1.st hl60)
      have htg := HY.out.1.good.take
      by_cases hlt : j < ins.length
      · obtain ⟨ib, io, op, tq2, args, num, aa, ac, hia, hy, i0, i1, i2, i3, hyR⟩ := ins_place HBK.out.2.2.1 hlt
        have HIA := Lib.hid hia
        subst hia
        have hji : (j : Int) < (ins.length : Int) := by omega
        have HDR := Lib.hid (drop_of hy)
        have hyv := HBK.out.2.1.ins _ (List.mem_of_getElem? hy)
        cases hfin : s2.take.fin with
        | some en =>
          have HF := Lib.hid (HFIN.out)
          rw [show s2.take.fin.isNone = false by rw [hfin]; rfl] at HTK
          have HEN := Lib.hid (show R = (0, s2.take) by
            have h1 := HY.out.2
            rw [HDR.out, insAll_stop1 hfin] at h1
            rw [← HX.out.2.2, block_over HBK.out.1 HRI.out.symm (by rw [← h1]; exact hfin), ← h1])
          have HFI := Lib.hid hfin
          clear hfin htg hyv hyR hy
          go_wp2_with fail
          refine HTK.out.mono ?_
          rintro e w3 ⟨rfl, hS3, hT3⟩
          have k6 := hS3.cell 6
          simp only [sRow, List.getElem?_toArray, List.getElem?_cons_zero, List.getElem?_cons_succ] at k6
          rw [HFI.out] at k6
          have HE := Lib.hid (HFIN.out D2 sv2 tv2 w3 0 s2.take hS3 (HY.out.1.step.trans hT3.plus) HEN.out)
          clear hS3 hT3 x1
          go_wp2
          go_ret
          exact HE.out
        | none =>
          rw [show s2.take.fin.isNone = true by rw [hfin]; rfl] at HTK
          have HFI := Lib.hid hfin
          have htl := RunS.take_lt hfin
          have hsm : s2.take.said.length + s2.take.left < 60000 := by rw [take_said]; have := HY.out.1.good.small; omega
          have HG := Lib.hid (And.intro htg (And.intro hsm hyv))
          have HIC := Lib.hid (And.intro i0 (And.intro i1 (And.intro i2 (And.intro i3 hyR))))
          clear hfin htg hyv hyR hy htl hsm i0 i1 i2 i3
          go_wp2_with fail
          refine HTK.out.mono ?_
          rintro e w3 ⟨rfl, hS3, hT3⟩
          have hR3 := HY.out.1.rg.stay hT3.turned HY.out.1.rg.out (hT3.out HY.out.1.rg.lt.2 HY.out.1.rg.out)
          have hx3 := HY.out.1.step.trans hT3.plus
          have hxrow := hx3.block HXB.out.1 HXB.out.2
          have x1 := cell_of_row _ _ 1 _ _ _ hxrow
          simp only [List.getElem?_toArray, List.getElem?_cons_zero, List.getElem?_cons_succ] at x1
          have i0 := cell_later hS3.base HIC.out.1
          have i1 := cell_later hS3.base HIC.out.2.1
          have i2 := cell_later hS3.base HIC.out.2.2.1
          have i3 := cell_later hS3.base HIC.out.2.2.2.1
          have HCALL := Lib.hid (insS_any (c := ⟨params, (n : Int), blocks⟩) HU.out.2.2.1 HU.out.2.2.2.1 hklt HG.out.2.2 _ HIC.out.2.2.2.2 rfl hnn hS3 hR3 HG.out.1 HFI.out HG.out.2.1)
          have HGI := Lib.hid (good_ins (call := codeRun doD predsC us d) doD_ok (good_code doD_ok us HU.out.2.2.1.numOk d) ⟨op, tq2, args, num⟩ (fun ho hn => (HG.out.2.2.num (by
            have h1 := HG.out.2.2.op
            have h2 := HG.out.2.2.arity
            change 1 ≤ op ∧ op ≤ 14 at h1
            change op ≠ 1 → op ≠ 14 → (args.length : Int) = argsN op at h2
            change op ≤ 10 at ho
            change ¬ args.length > 0 at hn
            show op = 1
            by_cases h3 : op = 1
            · exact h3
            · exfalso
              have h4 := h2 h3 (by omega)
              unfold argsN at h4
              rw [if_neg h3] at h4
              split at h4 <;> omega)).2) regs2 s2.take HY.out.1.rg.byts HG.out.1 HG.out.2.1)
          have HX3 := Lib.hid hx3
          clear hS3 hT3 hR3 hx3 hxrow
          obtain ⟨r, hr⟩ : ∃ r, r = insRun doD (codeRun doD predsC us d) ⟨op, tq2, args, num⟩ regs2 s2.take := ⟨_, rfl⟩
          rw [← hr] at HCALL HGI
          have HRR := Lib.hid hr
          clear hr
          change Hid (Calls _ _ #[_, .agg #[.int .i64 op, .int .i64 tq2, .slice aa args.length ac, .int .i64 num], _] _ _) at HCALL
          go_wp2_with fail
          refine HCALL.out.mono ?_
          rintro e w4 ⟨rfl, D4, sv4, tv4, hS4, hR4, hT4⟩
          have k6 := hS4.cell 6
          simp only [sRow, List.getElem?_toArray, List.getElem?_cons_zero, List.getElem?_cons_succ] at k6
          have HX4 := Lib.hid (HX3.out.trans hT4)
          clear x1 i0 i1 i2 i3
          cases hf4 : r.2.fin with
          | some en =>
            rw [hf4] at k6
            have HEN := Lib.hid (show R = (0, r.2) by
              have h1 := HY.out.2
              rw [HDR.out, insAll_stop2 HFI.out (by rw [← HRR.out]; exact hf4), ← HRR.out] at h1
              rw [← HX.out.2.2, block_over HBK.out.1 HRI.out.symm (by rw [← h1]; exact hf4), ← h1])
            have HE := Lib.hid (HFIN.out D4 sv4 tv4 w4 0 r.2 hS4 HX4.out HEN.out)
            clear hS4 hR4 hT4 hf4
            go_wp2
            go_ret
            exact HE.out
          | none =>
            rw [hf4] at k6
            have HN := Lib.hid (show CSt w0 (some ⟨ub, uo, none⟩) us.length uc rb cb gb n D1 Wx D4 sv4 tv4 w4 r.1 r.2 ∧ insAll doD (codeRun doD predsC us d) (ins.drop (j + 1)) r.1 r.2 = RI from
              ⟨⟨hS4, hR4, HX4.out, HGI.out.2, hf4⟩, by
                have h1 := HY.out.2
                rw [HDR.out, insAll_go HFI.out (by rw [← HRR.out]; exact hf4), ← HRR.out] at h1
                exact h1⟩)
            clear hS4 hR4 hT4 hf4
            go_wp2
            go_roundg (ins.length - (j + 1))
            case measure => omega
            case rel => exact ⟨j + 1, by omega, by go_num, r.1, r.2, D4, sv4, tv4, HN⟩
      · obtain rfl : j = ins.length := by omega
        have HEQ := Lib.hid (show RI = (regs2, s2) by
          have h1 := HY.out.2
          rw [List.drop_length] at h1
          exact h1.symm)
        cases hfin : s2.take.fin with
        | some en =>
          rw [show s2.take.fin.isNone = false by rw [hfin]; rfl] at HTK
          have HEN := Lib.hid (show R = (0, s2.take) by
            rw [← HX.out.2.2, block_fuel HBK.out.1 (HRI.out.symm.trans HEQ.out) HY.out.1.fin hfin])
          clear hfin htg
          go_wp2_with fail
          refine HTK.out.mono ?_
          rintro e w3 ⟨rfl, hS3, hT3⟩
          have HE := Lib.hid (HFIN.out D2 sv2 tv2 w3 0 s2.take hS3 (HY.out.1.step.trans hT3.plus) HEN.out)
          clear hS3 hT3 x1
          go_wp2
          go_ret
          exact HE.out
        | none =>
          rw [show s2.take.fin.isNone = true by rw [hfin]; rfl] at HTK
          have HFI := Lib.hid hfin
          have HG := Lib.hid (And.intro htg (RunS.take_lt hfin))
          have HCS := Lib.hid (show ∀ w3, SSt w0 (some ⟨ub, uo, none⟩) us.length uc rb cb D2 sv2 tv2 w3 s2.take → Step D2 wr D2 w3 → CSt w0 (some ⟨ub, uo, none⟩) us.length uc rb cb gb n D w2 D2 sv2 tv2 w3 regs2 s2.take ∧ w3.heap[xb]? = some (.cells #[.slice pa phis.length pc, .slice ia ins.length ic, .int .i64 jump, .int .i64 jon, .slice na nx.length nc] 41 (0, 0)) ∧ w3.heap[kb]? = some (.cells #[.int .i64 params, .int .i64 (n : Int), .slice (some ⟨qb, qo, none⟩) blocks.length bc] 37 (0, 0)) ∧ Step (fun k => D1 k ∨ k = gb) Wx (fun k => D2 k ∨ k = gb) w3 from fun w3 hS3 hT3 => by
            have hx3 := HY.out.1.step.trans hT3.plus
            exact ⟨⟨hS3, HY.out.1.rg.stay hT3.turned HY.out.1.rg.out (hT3.out HY.out.1.rg.lt.2 HY.out.1.rg.out), HSX.out.2.2.trans hx3, HG.out.1, HFI.out⟩, hx3.block HXB.out.1 HXB.out.2, hx3.block HKX.out.1 HKX.out.2, hx3⟩)
          clear hfin htg
          go_wp2_with fail
          refine HTK.out.mono ?_
          rintro e w3 ⟨rfl, hS3, hT3⟩
          obtain ⟨hC3, hxrow, hkrow, hx3⟩ := HCS.out w3 hS3 hT3
          have HC3 := Lib.hid (And.intro hC3 hx3)
          have x2 := cell_of_row _ _ 2 _ _ _ hxrow
          have x3 := cell_of_row _ _ 3 _ _ _ hxrow
          have x4 := cell_of_row _ _ 4 _ _ _ hxrow
          have m0 := cell_of_row _ _ 0 _ _ _ hkrow
          have m1 := cell_of_row _ _ 1 _ _ _ hkrow
          have m2 := cell_of_row _ _ 2 _ _ _ hkrow
          simp only [List.getElem?_toArray, List.getElem?_cons_zero, List.getElem?_cons_succ] at x2 x3 x4 m0 m1 m2
          clear hC3 hxrow hkrow hx3 hS3 hT3 x1
          rcases HBK.out.2.1.jump with ⟨hj1, hnl⟩ | ⟨hj2, hnl⟩ | ⟨hj3, hnl⟩
          · obtain rfl : jump = 1 := hj1
            change nx.length = 1 at hnl
            have HNL := Lib.hid hnl
            rw [hnl] at x4
            obtain ⟨nb, no, y0, hna, hy0, n0⟩ := HBK.out.2.2.2.place (i := 0) (by omega)
            subst hna
            rw [Nat.add_zero] at n0
            have n0 := cell_later HC3.out.1.st.base n0
            have HNX := Lib.hid (show ∀ nn : Nat, y0 = (nn : Int) → nextOf ⟨phis, ins, 1, jon, nx⟩ regs2 = nn from fun nn e => by
              unfold nextOf
              rw [if_pos (.inl rfl)]
              show (nx.getD 0 0).toNat = nn
              rw [List.getD_eq_getElem?_getD, hy0, e]; rfl)
            have HJ := Lib.hid (show (1 : Int) ≠ 3 by omega)
            clear hnl
            have hyr := HBK.out.2.1.nx y0 (List.mem_of_getElem? hy0)
            change 1 ≤ y0 ∧ y0 < (blocks.length : Int) at hyr
            obtain ⟨nn, rfl⟩ : ∃ i : Nat, y0 = (i : Int) := ⟨y0.toNat, by omega⟩
            have hnb : nn < blocks.length := by omega
            obtain ⟨y, hyb⟩ : ∃ y, blocks[nn]? = some y := ⟨_, List.getElem?_eq_getElem hnb⟩
            have hyv := (HU.out.2.2.1.code k _ HU.out.2.2.2.2.1).blk nn y hyb
            have HPH := Lib.hid (phisS_any (rb := rb) (params := params) (rgs := (n : Int)) (bc := bc) (fr := bn) HU.out.1 HU.out.2.1 hyb (fun f hf => by
              have h1 := hyv.phis f hf
              exact ⟨h1.2.1, h1.2.2.1, h1.2.2.2⟩) (preds_mem HBK.out.1 (List.mem_of_getElem? hy0)) (by
              have h1 := szBlock_parts (szS_get HU.out.2.2.2.2.2 hyb).1
              exact Nat.le_trans (szS_len szPhiD _) h1.1) hcb.2 hnn HC3.out.1.st.base HC3.out.1.rg)
            have HRN := Lib.hid (show blockRun doD (codeRun doD predsC us d) predsC ⟨params, (n : Int), blocks⟩ false F nn (phiAll y.phis ((predsC ⟨params, (n : Int), blocks⟩ nn).idxOf (bn : Int)) regs2) s2.take = R from by
              rw [← HX.out.2.2, block_next HBK.out.1 (HRI.out.symm.trans HEQ.out) HY.out.1.fin HFI.out HJ.out (HNX.out nn rfl) hyb])
            clear hy0 hyr hyv hyb
            go_wp2_with fail
            refine HPH.out.mono ?_
            rintro e w4 ⟨rfl, hR4, hT4⟩
            have HN := Lib.hid (show CSt w0 (some ⟨ub, uo, none⟩) us.length uc rb cb gb n D w2 D2 sv2 tv2 w4 (phiAll y.phis ((predsC ⟨params, (n : Int), blocks⟩ nn).idxOf (bn : Int)) regs2) s2.take ∧ s2.take.left < F ∧ blockRun doD (codeRun doD predsC us d) predsC ⟨params, (n : Int), blocks⟩ false F nn (phiAll y.phis ((predsC ⟨params, (n : Int), blocks⟩ nn).idxOf (bn : Int)) regs2) s2.take = R from by
              have h1 := HRL.out
              rw [HEQ.out] at h1
              have h2 := HX.out.2.1
              have h3 := HG.out.2
              dsimp only at h1
              refine ⟨⟨HC3.out.1.st.stay hT4 (fun k hk => by subst hk; exact ⟨HC3.out.1.rg.out, HC3.out.1.rg.lt.1⟩), hR4, HC3.out.1.step.trans ⟨hT4.mono (fun k hk => .inr hk), fun _ _ h => h⟩, HG.out.1, HFI.out⟩, by omega, HRN.out⟩)
            clear hR4 hT4
            go_wp2
            go_roundg F
            case measure => omega
            case rel => exact ⟨nn, by go_num, hnb, _, _, _, _, _, HN⟩
          · obtain rfl : jump = 2 := hj2
            change nx.length = 2 at hnl
            have HNL := Lib.hid hnl
            rw [hnl] at x4
            have hjon := HBK.out.2.1.jon rfl
            change 0 ≤ jon ∧ jon < (n : Int) at hjon
            obtain ⟨jj, rfl⟩ : ∃ i : Nat, jon = (i : Int) := ⟨jon.toNat, by omega⟩
            have hjn : (jj : Int) < (n : Int) := hjon.2
            have rj := HC3.out.1.rg.at (j := jj) (by omega)
            have HJ := Lib.hid (show (2 : Int) ≠ 3 by omega)
            by_cases hv : atI regs2 (jj : Int) = 0
            · obtain ⟨nb, no, y0, hna, hy0, n0⟩ := HBK.out.2.2.2.place (i := 1) (by omega)
              subst hna
              have n0 := cell_later HC3.out.1.st.base n0
              rw [hv] at rj
              have HNX := Lib.hid (show ∀ nn : Nat, y0 = (nn : Int) → nextOf ⟨phis, ins, 2, (jj : Int), nx⟩ regs2 = nn from fun nn e => by
                unfold nextOf
                rw [if_neg (by rintro (h | h); · cases h
                               · exact h hv)]
                show (nx.getD 1 0).toNat = nn
                rw [List.getD_eq_getElem?_getD, hy0, e]; rfl)
              clear hnl hv hjon
              have hyr := HBK.out.2.1.nx y0 (List.mem_of_getElem? hy0)
              change 1 ≤ y0 ∧ y0 < (blocks.length : Int) at hyr
              obtain ⟨nn, rfl⟩ : ∃ i : Nat, y0 = (i : Int) := ⟨y0.toNat, by omega⟩
              have hnb : nn < blocks.length := by omega
              obtain ⟨y, hyb⟩ : ∃ y, blocks[nn]? = some y := ⟨_, List.getElem?_eq_getElem hnb⟩
              have hyv := (HU.out.2.2.1.code k _ HU.out.2.2.2.2.1).blk nn y hyb
              have HPH := Lib.hid (phisS_any (rb := rb) (params := params) (rgs := (n : Int)) (bc := bc) (fr := bn) HU.out.1 HU.out.2.1 hyb (fun f hf => by
                have h1 := hyv.phis f hf
                exact ⟨h1.2.1, h1.2.2.1, h1.2.2.2⟩) (preds_mem HBK.out.1 (List.mem_of_getElem? hy0)) (by
                have h1 := szBlock_parts (szS_get HU.out.2.2.2.2.2 hyb).1
                exact Nat.le_trans (szS_len szPhiD _) h1.1) hcb.2 hnn HC3.out.1.st.base HC3.out.1.rg)
              have HRN := Lib.hid (show blockRun doD (codeRun doD predsC us d) predsC ⟨params, (n : Int), blocks⟩ false F nn (phiAll y.phis ((predsC ⟨params, (n : Int), blocks⟩ nn).idxOf (bn : Int)) regs2) s2.take = R from by
                rw [← HX.out.2.2, block_next HBK.out.1 (HRI.out.symm.trans HEQ.out) HY.out.1.fin HFI.out HJ.out (HNX.out nn rfl) hyb])
              clear hy0 hyr hyv hyb
              go_wp2_with fail
              refine HPH.out.mono ?_
              rintro e w4 ⟨rfl, hR4, hT4⟩
              have HN := Lib.hid (show CSt w0 (some ⟨ub, uo, none⟩) us.length uc rb cb gb n D w2 D2 sv2 tv2 w4 (phiAll y.phis ((predsC ⟨params, (n : Int), blocks⟩ nn).idxOf (bn : Int)) regs2) s2.take ∧ s2.take.left < F ∧ blockRun doD (codeRun doD predsC us d) predsC ⟨params, (n : Int), blocks⟩ false F nn (phiAll y.phis ((predsC ⟨params, (n : Int), blocks⟩ nn).idxOf (bn : Int)) regs2) s2.take = R from by
                have h1 := HRL.out
                rw [HEQ.out] at h1
                have h2 := HX.out.2.1
                have h3 := HG.out.2
                dsimp only at h1
                refine ⟨⟨HC3.out.1.st.stay hT4 (fun k hk => by subst hk; exact ⟨HC3.out.1.rg.out, HC3.out.1.rg.lt.1⟩), hR4, HC3.out.1.step.trans ⟨hT4.mono (fun k hk => .inr hk), fun _ _ h => h⟩, HG.out.1, HFI.out⟩, by omega, HRN.out⟩)
              clear hR4 hT4
              go_wp2
              go_roundg F
              case measure => omega
              case rel => exact ⟨nn, by go_num, hnb, _, _, _, _, _, HN⟩
            · obtain ⟨nb, no, y0, hna, hy0, n0⟩ := HBK.out.2.2.2.place (i := 0) (by omega)
              subst hna
              rw [Nat.add_zero] at n0
              have n0 := cell_later HC3.out.1.st.base n0
              have HNX := Lib.hid (show ∀ nn : Nat, y0 = (nn : Int) → nextOf ⟨phis, ins, 2, (jj : Int), nx⟩ regs2 = nn from fun nn e => by
                unfold nextOf
                rw [if_pos (.inr hv)]
                show (nx.getD 0 0).toNat = nn
                rw [List.getD_eq_getElem?_getD, hy0, e]; rfl)
              have hvn : (atI regs2 (jj : Int) != 0) = true := by simpa using hv
              generalize atI regs2 (jj : Int) = vv at rj hvn
              clear hnl hv hjon
              have hyr := HBK.out.2.1.nx y0 (List.mem_of_getElem? hy0)
              change 1 ≤ y0 ∧ y0 < (blocks.length : Int) at hyr
              obtain ⟨nn, rfl⟩ : ∃ i : Nat, y0 = (i : Int) := ⟨y0.toNat, by omega⟩
              have hnb : nn < blocks.length := by omega
              obtain ⟨y, hyb⟩ : ∃ y, blocks[nn]? = some y := ⟨_, List.getElem?_eq_getElem hnb⟩
              have hyv := (HU.out.2.2.1.code k _ HU.out.2.2.2.2.1).blk nn y hyb
              have HPH := Lib.hid (phisS_any (rb := rb) (params := params) (rgs := (n : Int)) (bc := bc) (fr := bn) HU.out.1 HU.out.2.1 hyb (fun f hf => by
                have h1 := hyv.phis f hf
                exact ⟨h1.2.1, h1.2.2.1, h1.2.2.2⟩) (preds_mem HBK.out.1 (List.mem_of_getElem? hy0)) (by
                have h1 := szBlock_parts (szS_get HU.out.2.2.2.2.2 hyb).1
                exact Nat.le_trans (szS_len szPhiD _) h1.1) hcb.2 hnn HC3.out.1.st.base HC3.out.1.rg)
              have HRN := Lib.hid (show blockRun doD (codeRun doD predsC us d) predsC ⟨params, (n : Int), blocks⟩ false F nn (phiAll y.phis ((predsC ⟨params, (n : Int), blocks⟩ nn).idxOf (bn : Int)) regs2) s2.take = R from by
                rw [← HX.out.2.2, block_next HBK.out.1 (HRI.out.symm.trans HEQ.out) HY.out.1.fin HFI.out HJ.out (HNX.out nn rfl) hyb])
              clear hy0 hyr hyv hyb
              go_wp2_with fail
              refine HPH.out.mono ?_
              rintro e w4 ⟨rfl, hR4, hT4⟩
              have HN := Lib.hid (show CSt w0 (some ⟨ub, uo, none⟩) us.length uc rb cb gb n D w2 D2 sv2 tv2 w4 (phiAll y.phis ((predsC ⟨params, (n : Int), blocks⟩ nn).idxOf (bn : Int)) regs2) s2.take ∧ s2.take.left < F ∧ blockRun doD (codeRun doD predsC us d) predsC ⟨params, (n : Int), blocks⟩ false F nn (phiAll y.phis ((predsC ⟨params, (n : Int), blocks⟩ nn).idxOf (bn : Int)) regs2) s2.take = R from by
                have h1 := HRL.out
                rw [HEQ.out] at h1
                have h2 := HX.out.2.1
                have h3 := HG.out.2
                dsimp only at h1
                refine ⟨⟨HC3.out.1.st.stay hT4 (fun k hk => by subst hk; exact ⟨HC3.out.1.rg.out, HC3.out.1.rg.lt.1⟩), hR4, HC3.out.1.step.trans ⟨hT4.mono (fun k hk => .inr hk), fun _ _ h => h⟩, HG.out.1, HFI.out⟩, by omega, HRN.out⟩)
              clear hR4 hT4
              go_wp2
              go_roundg F
              case measure => omega
              case rel => exact ⟨nn, by go_num, hnb, _, _, _, _, _, HN⟩
          · obtain rfl : jump = 3 := hj3
            have hjon := HBK.out.2.1.jon rfl
            change 0 ≤ jon ∧ jon < (n : Int) at hjon
            obtain ⟨jj, rfl⟩ : ∃ i : Nat, jon = (i : Int) := ⟨jon.toNat, by omega⟩
            have hjn : (jj : Int) < (n : Int) := hjon.2
            have rj := HC3.out.1.rg.at (j := jj) (by omega)
            have HEN := Lib.hid (show R = (atI regs2 (jj : Int), s2.take) by
              rw [← HX.out.2.2, block_back HBK.out.1 (HRI.out.symm.trans HEQ.out) HY.out.1.fin HFI.out rfl])
            have HE := Lib.hid (HFIN.out D2 sv2 tv2 w3 _ s2.take HC3.out.1.st HC3.out.2 HEN.out)
            generalize atI regs2 (jj : Int) = v at rj HE
            clear hnl hjon
            go_wp2
            go_ret
            exact HE.out


theorem codeS_all (hV : UnitV us) (hsz : szS szCodeD us ≤ 1048576) (hU : SliceRd 3 CodeR w0 ua us.length us) : ∀ d, CodeC w0 us ua uc rb cb d d
  | 0 => fun k _ _ _ _ _ _ _ _ _ hk => absurd hk (Nat.not_lt_zero _)
  | d + 1 => fun k c inp ia ic D sv tv w s hkd hk hpl hin hby h hf hs htr => by
    have hC : CodeC w0 us ua uc rb cb d k := fun k' c' inp ia ic D sv tv w s hk' => codeS_all hV hsz hU d k' c' inp ia ic D sv tv w s (by omega)
    have hkl := (List.getElem?_eq_some_iff.1 hk).1
    by_cases hm : k + 1 = us.length
    · exact codeS_main hV hsz hU hC hk hm hpl hin hby h hf hs (htr hm)
    · exact codeS_sub hV hsz hU hC hk (by omega) hpl hin hby h hf hs
end

end Go.Proofs.Ytajnldkempeheaa
