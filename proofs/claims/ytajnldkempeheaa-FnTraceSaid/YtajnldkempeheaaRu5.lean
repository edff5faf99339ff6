/-
  The program's run of a unit on the heap: a code. (printed by mkru5.py)
-/
import Derived.Test.YtajnldkempeheaaRu4

namespace Go.Proofs.Ytajnldkempeheaa
open Go.RowKit
set_option linter.unusedVariables false
set_option linter.unusedSimpArgs false

/-- copy into a row of the call's own; no other block is touched. -/
theorem wpList_copy_row {P : Program} {w : World} {ops : Array Oper} {rest : List Oper} {o : Oper} {a : Act} {Q : Exit → Act → World → Prop} (hgd : o.guard = none) (d s : Operand) (dT sT : TypeId)
    (ho : o.op = .call { callee := .builtin .copy, args := #[d, s], argTypes := #[dT, sT] }) (elem : TypeId) (hu : P.underlying dT = some (.slice elem)) (hsz : (P.info? elem).map (·.size) = some 1)
    (dp sp : Option Addr) (dLen dCap sLen sCap : Nat) (hd : a.eval d = .slice dp dLen dCap) (hs : a.eval s = .slice sp sLen sCap)
    (g off : Nat) (cur : List Value) (t : TypeId) (hg : w.heap[g]? = some (.cells cur.toArray t (0, 0))) (cs : List Value) (hn : cs.length = Nat.min sLen dLen)
    (hpos : 0 < cs.length → dp = some ⟨g, off, none⟩ ∧ ∃ ad, sp = some ad ∧ ∀ j v, cs[j]? = some v → w.cell? (ad.add j) = some v)
    (hfit : off + cs.length ≤ cur.length) (h1 : ∀ v ∈ cs, v.oneCell' = true)
    (h : ∀ w', Hid (w'.heap[g]? = some (.cells (splice cur off cs).toArray t (0, 0)) ∧ Turned (fun k => k = g) w w') → wpList P ops Q rest (a.put o.dst (goInt cs.length)) w') :
    wpList P ops Q (o :: rest) a w := by
  by_cases h0 : cs.length = 0
  · obtain rfl : cs = [] := List.eq_nil_of_length_eq_zero h0
    refine wpList_copy_nothing hgd d s dT sT ho elem hu hsz dp sp dLen dCap sLen sCap hd hs (by simpa using hn.symm) ?_
    exact h w (Lib.hid ⟨by simpa [splice] using hg, Turned.refl _ _⟩)
  · obtain ⟨rfl, ad, rfl, hsrc⟩ := hpos (by omega)
    refine wpList_copy_own hgd d s dT sT ho elem hu hsz g off dLen dCap ad sLen sCap hd hs cur.toArray t hg cs hn hsrc (by simpa using hfit) h1 ?_
    exact h _ (Lib.hid ⟨by simpa [splice] using setRow_heap w g _ _ t _ hg, ⟨rfl, rfl, rfl, by simp [World.setRow], fun k hk hn => setRow_other w g k _ hn⟩⟩)
/-- The registers that a block begins with, when one comes from a block (or from none). -/
def phiIn (c : CodeD) (b : Nat) (fr : Int) (regs : List Int) : List Int := if fr < 0 then regs else phiAll (c.blocks.getD b ⟨[], [], 3, 0, []⟩).phis ((predsC c b).idxOf fr) regs
theorem phiIn_none {c : CodeD} {b : Nat} {regs : List Int} : phiIn c b (-1) regs = regs := rfl
theorem phiIn_from {c : CodeD} {b f : Nat} {regs : List Int} {x : BlockD} (hx : c.blocks[b]? = some x) : phiIn c b (f : Int) regs = phiAll x.phis ((predsC c b).idxOf (f : Int)) regs := by
  unfold phiIn
  rw [if_neg (by omega), getD_of hx]
/-- A run in the middle of a code. -/
structure MCSt (w0 : World) (ua : Option Addr) (nu uc rb N gb n : Nat) (B : Nat → Prop) (W : World) (D : Nat → Prop) (sv tv : Value) (w : World) (regs : List Int) (s : RunS) : Prop where
  st : MSt w0 ua nu uc rb N D sv tv w s
  rg : RgSt w0.heap.size gb n D w regs
  step : Step (fun k => B k ∨ k = gb) W (fun k => D k ∨ k = gb) w
  good : Good s
  fin : s.fin = none
section
variable {w0 w : World} {us : List CodeD} {ua : Option Addr} {uc rb N d k : Nat} {D : Nat → Prop} {sv tv : Value} {s : RunS}
set_option maxRecDepth 100000 in
set_option maxHeartbeats 8000000 in
theorem codeI_main {c : CodeD} {inp : List Int} {ia : Option Addr} {ic : Nat} (hV : UnitV us) (hsz : szS szCodeD us ≤ 1048576) (hU : SliceRd 3 CodeR w0 ua us.length us) (hC : MCodeC w0 us ua uc rb N d k) (hk : us[k]? = some c) (hmain : k + 1 = us.length) (hNN : N ≤ 60000)
    (hinp : (inp.length : Int) = c.params) (hin : IntsRd w ia inp.length inp) (hby : Byts inp) (h : MSt w0 ua us.length uc rb N D sv tv w s) (hf : s.fin = none) (hs : Good s) (htr : s.trace.length + s.left ≤ 60000) :
    Calls Try.prog 32 #[.pointer (some ⟨rb, 0, none⟩), .int .i64 (k : Int), .slice ia inp.length ic, .bool true] w fun e w' => e = outE (codeRun doD predsC us (d + 1) k inp s).2.fin (.int .i64 (codeRun doD predsC us (d + 1) k inp s).1) ∧
      ∃ D' sv' tv', MSt w0 ua us.length uc rb N D' sv' tv' w' (codeRun doD predsC us (d + 1) k inp s).2 ∧ Step D w D' w' := by
  have hmf : ∀ (fn : Fn) (first cap : Array Value) (w : World), (Instr.makeFunc fn first cap).run Try.prog w = .ok (.func fn first cap) w := fun _ _ _ _ => rfl
  have hklt := (List.getElem?_eq_some_iff.1 hk).1
  obtain ⟨ub, uo, params, rgs, blocks, ba, bc, hua, hk2, c0, c1, c2, hCR⟩ := code_place hU hklt
  subst hua
  rw [hk] at hk2
  cases hk2
  have hG := gr_of_code hCR (szS_get hsz hk).1
  obtain ⟨ba2, bc2, hcs, ⟨hbm, hbn⟩, hB⟩ := hCR
  simp only [List.cons.injEq, Value.slice.injEq, and_true, true_and] at hcs
  obtain ⟨rfl, rfl⟩ := hcs
  change SliceRd 5 BlockR w0 ba blocks.length blocks at hB
  obtain ⟨ba3, bc3, hcs, hG⟩ := hG
  simp only [List.cons.injEq, Value.slice.injEq, and_true, true_and] at hcs
  obtain ⟨rfl, -⟩ := hcs
  have hcv := hV.code k _ hk
  have hcr := hcv.regs
  have hcp := hcv.params
  have hcb := hcv.blocks
  simp only at hcr hcp hcb hinp
  obtain ⟨n, rfl⟩ : ∃ n : Nat, rgs = (n : Int) := ⟨rgs.toNat, by omega⟩
  have hcz : szS szBlockD blocks ≤ 1048576 := (szS_get hsz hk).1
  have hus := hV.len
  obtain ⟨R, hR⟩ : ∃ R, R = codeRun doD predsC us (d + 1) k inp s := ⟨_, rfl⟩
  rw [← hR]
  have hRB : blockRun doD (codeRun doD predsC us d) predsC ⟨params, (n : Int), blocks⟩ true (s.left + 1) 0 (inp ++ List.replicate (n - inp.length) 0) s = R := by
    rw [hR]
    conv => rhs; unfold codeRun
    dsimp only
    rw [List.getD_eq_getElem?_getD, hk, Option.getD_some, show (k + 1 == us.length) = true by simpa using hmain]
    rfl
  have hba : Below w.heap.size w (w.alloc (.cells #[.int .i64 params, .int .i64 (n : Int), .slice ba blocks.length bc] 37)) := (Below.refl _ _).alloc (Nat.le_refl _) _
  have hrow := heap_alloc_new w (.cells #[.int .i64 params, .int .i64 (n : Int), .slice ba blocks.length bc] 37)
  have hS1 := h.later hba
  have hk0 := h.cell 0
  simp only [mList, List.getElem?_cons_zero] at hk0
  have d0 := cell_later h.base c0
  have d1 := cell_later h.base c1
  have d2 := cell_later h.base c2
  have hkl : (k : Int) < (us.length : Int) := by omega
  have hnn : n ≤ 300 := by omega
  have hil : inp.length ≤ n := by omega
  have HU := Lib.hid (And.intro hB (And.intro hG (And.intro hV (And.intro hC (And.intro hk hcz)))))
  have HIN := Lib.hid (hin.later hba)
  have HBY := Lib.hid hby
  have HH := Lib.hid (And.intro h (And.intro hf hs))
  have HRB := Lib.hid hRB
  have HR := Lib.hid hR
  have HTR := Lib.hid (And.intro hmain htr)
  generalize hW : (w.alloc (.cells #[.int .i64 params, .int .i64 (n : Int), .slice ba blocks.length bc] 37)) = W1 at hba hrow hS1 HIN
  have HW := Lib.hid hW
  have hW1 : W1.heap.size = w.heap.size + 1 := by rw [← hW, World.size_alloc]
  have HS1 := Lib.hid (And.intro hba (And.intro hS1 (And.intro hrow hW1)))
  clear hW1
  obtain ⟨i0, hi, hz0, hz1, hz2⟩ := info_parts info_int
  have hlo1 : w0.heap.size ≤ W1.heap.size := hS1.base.size
  obtain ⟨cs0, hcs0⟩ : ∃ X, X = inp.map (Value.int .i64) := ⟨_, rfl⟩
  have HCS := Lib.hid hcs0
  have hcsl : cs0.length = inp.length := by rw [hcs0, List.length_map]
  clear hR hRB h hf hs hin hby hU hC hk hV hsz hB hG hcv hbm hbn hW hS1 c0 c1 c2 hcs0 hcz hinp hba hmain htr
  obtain ⟨kb, hkb⟩ : ∃ b, b = w.heap.size := ⟨_, rfl⟩
  rw [← hkb] at hrow
  have HKB := Lib.hid hkb
  have m1 := cell_of_row _ _ 1 _ _ _ hrow
  simp only [List.getElem?_toArray, List.getElem?_cons_zero, List.getElem?_cons_succ] at m1
  clear hkb hrow
  go_enter Try.func32, Try.ntmps32
  go_upto_region 2 with fail
  rw [HW.out, ← HKB.out]
  clear hk0 d0 d1 d2
  go_wp2_with (first
    | (at_make; refine wpList_make_full _ rfl _ _ 26 rfl w0.heap.size 3 i0 (.int .i64 0) 1 und_ints hi hz0 hz1 _ _ _ _ n rfl rfl rfl rfl (by rw [hz2]; omega) (by unfold maxLen; omega) hlo1 ?_; intro w1 hown hg; (rw [Nat.mul_one, show (Value.int .i64 0).cells = #[Value.int .i64 0] from rfl, toList_madeCells_one] at hown); (have hrw0 := own_whole hown); (have hbx : Below w1.heap.size w1 (w1.alloc (.cells #[.slice (some ⟨W1.heap.size, 0, none⟩) n n] 26)) := (Below.refl _ _).alloc (Nat.le_refl _) _); (have hbe : Below W1.heap.size W1 (w1.alloc (.cells #[.slice (some ⟨W1.heap.size, 0, none⟩) n n] 26)) := ((Below.refl _ _).grown hg (Nat.le_refl _) (by simp)).trans (hbx.mono hg.size)); (have hrw := (hbx.block _ (Array.getElem?_eq_some_iff.1 hrw0).1).trans hrw0); (have hin1 := HIN.out.later hbe); (have HB1 := Lib.hid (And.intro hbe (And.intro (heap_alloc_new w1 (.cells #[.slice (some ⟨W1.heap.size, 0, none⟩) n n] 26)) (Array.getElem?_eq_some_iff.1 hrw0).1))); clear hown hg hbe m1 hrw0 hbx)
    | (with_reducible refine wpList_copy_row rfl (.tmp 31) (.tmp 32) 26 26 rfl 3 und_ints (by kernel_rfl) _ _ _ _ _ _ rfl rfl W1.heap.size 0 _ _ hrw cs0 (by rw [hcsl]; exact (Nat.min_eq_left hil).symm) (fun h0 => ⟨rfl, by rw [HCS.out] at h0 ⊢; exact row_src hin1 h0⟩) (by rw [List.length_replicate, hcsl]; omega) (by rw [HCS.out]; exact oneCell_ints _) ?_; intro w2 HG2; clear hrw hin1))
  clear hi hz0 hz1 hz2
  obtain ⟨gb, hgb⟩ : ∃ b, b = W1.heap.size := ⟨_, rfl⟩
  rw [← hgb] at HG2 HB1 ⊢
  obtain ⟨gx, hgx⟩ : ∃ b, b = w1.heap.size := ⟨_, rfl⟩
  rw [← hgx] at HB1 ⊢
  have HW2 := Lib.hid (show Below w.heap.size w w2 ∧ w.heap.size ≤ gb ∧ kb < gb ∧ gb < w2.heap.size ∧ w2.heap[kb]? = some (.cells #[.int .i64 params, .int .i64 (n : Int), .slice ba blocks.length bc] 37 (0, 0)) ∧ w2.heap[gx]? = some (.cells #[.slice (some ⟨gb, 0, none⟩) n n] 26 (0, 0)) ∧ gb < gx from by
    have h1 := HS1.out
    have hs1 : W1.heap.size = w.heap.size + 1 := h1.2.2.2
    have h3 := HKB.out
    have ht := HG2.out.2
    have hgl : gb < gx := HB1.out.2.2
    have hb2 : Below gb W1 w2 := (HB1.out.1.mono (by rw [hgb]; exact Nat.le_refl _)).trans (ht.below (B := gb) (by have := (Array.getElem?_eq_some_iff.1 HB1.out.2.1).1; omega) (fun k hk => by omega))
    refine ⟨h1.1.trans (hb2.mono (by omega)), by omega, by omega, (Array.getElem?_eq_some_iff.1 HG2.out.1).1, ?_, ?_, hgl⟩
    · rw [hb2.block kb (by omega), h3]
      exact h1.2.2.1
    · exact (ht.block gx (Array.getElem?_eq_some_iff.1 HB1.out.2.1).1 (by omega)).trans HB1.out.2.1)
  have HC0 := Lib.hid (show MCSt w0 (some ⟨ub, uo, none⟩) us.length uc rb N gb n D w2 D sv tv w2 (inp ++ List.replicate (n - inp.length) 0) s from by
    have h1 := HS1.out
    have hs1 : W1.heap.size = w.heap.size + 1 := h1.2.2.2
    have h3 := HG2.out.1
    rw [HCS.out, regs_start hil] at h3
    have hD : ¬ D gb := fun hd => by have := HH.out.1.hi _ hd; omega
    have hbl : Below W1.heap.size W1 (w1.alloc (.cells #[.slice (some ⟨gb, 0, none⟩) n n] 26)) := by rw [← hgb]; exact HB1.out.1
    exact ⟨(h1.2.1.later hbl).stay HG2.out.2 (fun k hk => by subst hk; exact ⟨hD, by rw [hgb]; exact hlo1⟩), ⟨own_of_whole h3 (by rw [hgb]; exact hlo1) (by simp; omega) (by unfold maxLen; omega), hD, fun v hv => by
      rcases List.mem_append.1 hv with h | h
      · exact HBY.out v h
      · rw [(List.mem_replicate.1 h).2]; exact byt_zero⟩, Step.refl _ _, HH.out.2.2, HH.out.2.1⟩)
  clear HG2 HB1 HIN HBY HS1 HCS hcsl hlo1 hgb hgx cs0
  go_loopg [11, 12] (s.left + 1) (fun F i f wr => ∃ (bn : Nat) (fr : Int), i = .int .i64 bn ∧ f = .int .i64 fr ∧ bn < blocks.length ∧ ∃ regs s' D' sv' tv', Hid (MCSt w0 (some ⟨ub, uo, none⟩) us.length uc rb N gb n D w2 D' sv' tv' wr regs s' ∧ s'.left < F ∧ s'.trace.length + s'.left ≤ 60000 ∧ (fr = -1 ∨ ∃ f : Nat, fr = (f : Int) ∧ (f : Int) ∈ predsC ⟨params, (n : Int), blocks⟩ bn) ∧ blockRun doD (codeRun doD predsC us d) predsC ⟨params, (n : Int), blocks⟩ true F bn (phiIn ⟨params, (n : Int), blocks⟩ bn fr regs) s' = R))
  case atStart => exact ⟨0, -1, rfl, rfl, by omega, _, _, _, _, _, Lib.hid ⟨HC0.out, Nat.lt_succ_self _, HTR.out.2, .inl rfl, HRB.out⟩⟩
  case round =>
    obtain ⟨bn, fr, rfl, rfl, hbn, regs, s1, D1, sv1, tv1, HX⟩ := hrel
    clear HC0 HRB
    obtain ⟨F, rfl⟩ : ∃ F, gk = F + 1 := ⟨gk - 1, by have := HX.out.2.1; omega⟩
    obtain ⟨qb, qo, phis, ins, jump, jon, nx, pa, pc, ia, ic, na, nc, hqa, hx, c0, c1, c2, c3, c4, hBR⟩ := block_place HU.out.1 (i := bn) hbn
    subst hqa
    obtain ⟨pa', pc', ia', ic', na', nc', hcs, ⟨-, hP⟩, ⟨-, hI⟩, ⟨-, hN⟩⟩ := hBR
    simp only [List.cons.injEq, Value.slice.injEq, and_true, true_and] at hcs
    obtain ⟨⟨rfl, rfl⟩, ⟨rfl, rfl⟩, ⟨rfl, rfl⟩⟩ := hcs
    change SliceRd 2 PhiR w0 pa phis.length phis at hP
    change SliceRd 4 InsR w0 ia ins.length ins at hI
    change IntsRd w0 na nx.length nx at hN
    have hbi : (bn : Int) < (blocks.length : Int) := by omega
    have hblk := (HU.out.2.2.1.code k _ HU.out.2.2.2.2.1).blk bn _ hx
    have hzz := szBlock_parts (szS_get HU.out.2.2.2.2.2 hx).1
    have hilen : ins.length ≤ 1048576 := Nat.le_trans (szS_len szInsD ins) hzz.2.1
    have hplen : phis.length ≤ 1048576 := Nat.le_trans (szS_len szPhiD phis) hzz.1
    have HBK := Lib.hid (And.intro hx (And.intro hblk (And.intro hI hN)))
    have HPH := Lib.hid hP
    have HCC := Lib.hid (And.intro c0 (And.intro c1 (And.intro c2 (And.intro c3 c4))))
    clear hx hblk hzz hI hN hP c0 c1 c2 c3 c4
    have k20 := HX.out.1.st.cellT
    have T20 := Lib.hid ((cell_of_row _ _ 20 _ _ _ HX.out.1.st.row).symm.trans HX.out.1.st.cellT)
    have HLT := Lib.hid (fun o => HX.out.1.st.later ((Below.refl wr.heap.size wr).alloc (Nat.le_refl _) o))
    have htl : s1.trace.length ≤ 60000 := by have := HX.out.2.2.1; omega
    go_upto_region 7 with (at_builtin; refine app_ints rfl (.tmp 39) (.tmp 41) rfl w0.heap.size tv1 s1.trace.length _ rfl (HLT.out _).trace _ 1 _ [(bn : Int)] rfl rfl (rowAt_one _ _ _) (by rintro ⟨⟩) (by omega) (HLT.out (.cells #[.int .i64 (bn : Int)] 3)).base.size ?_; intro a5 c5 w5 hown5 hg5 hlies5; have h5 := (HLT.out (.cells #[.int .i64 (bn : Int)] 3)).walk (w := wr) ((Below.refl wr.heap.size wr).alloc (Nat.le_refl _) _) HX.out.1.st.base.size hown5 hg5 hlies5; have H5 := Lib.hid h5; (have k5 := (cell_of_row _ _ 20 _ _ _ h5.1).trans T20.out); have z5 := frozen_of_row _ _ 20 _ _ h5.1; clear h5 hown5 hg5 hlies5 k20)
    obtain ⟨D7, tv7, HC7⟩ : ∃ D7 tv7, Hid (MSt w0 (some ⟨ub, uo, none⟩) us.length uc rb N D7 sv1 tv7 (w5.setCell ⟨rb, 20, none⟩ (.slice a5 (s1.trace.length + 1) c5)) (addT true s1 bn) ∧ RgSt w0.heap.size gb n D7 (w5.setCell ⟨rb, 20, none⟩ (.slice a5 (s1.trace.length + 1) c5)) regs ∧ Step (fun k => D k ∨ k = gb) w2 (fun k => D7 k ∨ k = gb) (w5.setCell ⟨rb, 20, none⟩ (.slice a5 (s1.trace.length + 1) c5))) :=
      ⟨_, _, Lib.hid ⟨H5.out.2.1, HX.out.1.rg.stay H5.out.2.2.turned HX.out.1.rg.out (H5.out.2.2.out HX.out.1.rg.lt.2 HX.out.1.rg.out), HX.out.1.step.trans H5.out.2.2.plus⟩⟩
    generalize w5.setCell ⟨rb, 20, none⟩ (.slice a5 (s1.trace.length + 1) c5) = W7 at HC7 ⊢
    clear H5 HLT k5 z5 htl

    have hbs := HC7.out.1.base
    have e0 := cell_later hbs HCC.out.1
    have e1 := cell_later hbs HCC.out.2.1
    have e2 := cell_later hbs HCC.out.2.2.1
    have e3 := cell_later hbs HCC.out.2.2.2.1
    have e4 := cell_later hbs HCC.out.2.2.2.2
    have HNK := Lib.hid (show ¬ (D kb ∨ kb = gb) ∧ ¬ (D gx ∨ gx = gb) from ⟨fun hd => hd.elim (fun h2 => by have := HH.out.1.hi _ h2; have := HKB.out; omega) (fun e => by have := HW2.out; omega), fun hd => hd.elim (fun h2 => by have := HH.out.1.hi _ h2; have := HW2.out; omega) (fun e => by have := HW2.out; omega)⟩)
    have hkrow := HC7.out.2.2.block HW2.out.2.2.2.2.1 HNK.out.1
    have m2 := cell_of_row _ _ 2 _ _ _ hkrow
    simp only [List.getElem?_toArray, List.getElem?_cons_zero, List.getElem?_cons_succ] at m2
    have hba : Below W7.heap.size W7 (W7.alloc (.cells #[.slice pa phis.length pc, .slice ia ins.length ic, .int .i64 jump, .int .i64 jon, .slice na nx.length nc] 41)) := (Below.refl _ _).alloc (Nat.le_refl _) _
    have hrow := heap_alloc_new W7 (.cells #[.slice pa phis.length pc, .slice ia ins.length ic, .int .i64 jump, .int .i64 jon, .slice na nx.length nc] 41)
    clear hbs hkrow
    generalize hWx : (W7.alloc (.cells #[.slice pa phis.length pc, .slice ia ins.length ic, .int .i64 jump, .int .i64 jon, .slice na nx.length nc] 41)) = Wx at hba hrow
    have HWX := Lib.hid hWx
    have HBX := Lib.hid (And.intro hba hrow)
    clear hWx hba hrow
    go_upto_region 8 with fail
    rw [HWX.out]
    obtain ⟨xb, hxb⟩ : ∃ b, b = W7.heap.size := ⟨_, rfl⟩
    rw [← hxb]
    clear m2 e0 e1 e2 e3 e4
    have HSX := Lib.hid (show MSt w0 (some ⟨ub, uo, none⟩) us.length uc rb N D7 sv1 tv7 Wx (addT true s1 bn) ∧ RgSt w0.heap.size gb n D7 Wx regs ∧ Step (fun k => D k ∨ k = gb) w2 (fun k => D7 k ∨ k = gb) Wx from
      ⟨HC7.out.1.later HBX.out.1, HC7.out.2.1.later HBX.out.1, HC7.out.2.2.trans (Step.new HBX.out.1)⟩)
    have HXB := Lib.hid (show Wx.heap[xb]? = some (.cells #[.slice pa phis.length pc, .slice ia ins.length ic, .int .i64 jump, .int .i64 jon, .slice na nx.length nc] 41 (0, 0)) ∧ ¬ (D7 xb ∨ xb = gb) from
      ⟨by rw [hxb]; exact HBX.out.2, fun hd => hd.elim (fun h2 => by have := HC7.out.1.hi _ h2; omega) (fun e => by have := HC7.out.2.1.lt.2; omega)⟩)
    have HKX := Lib.hid (show (Wx.heap[kb]? = some (.cells #[.int .i64 params, .int .i64 (n : Int), .slice (some ⟨qb, qo, none⟩) blocks.length bc] 37 (0, 0)) ∧ ¬ (D7 kb ∨ kb = gb)) ∧ (Wx.heap[gx]? = some (.cells #[.slice (some ⟨gb, 0, none⟩) n n] 26 (0, 0)) ∧ ¬ (D7 gx ∨ gx = gb)) ∧ gb < xb from
      ⟨⟨HSX.out.2.2.block HW2.out.2.2.2.2.1 HNK.out.1, HSX.out.2.2.out (Array.getElem?_eq_some_iff.1 HW2.out.2.2.2.2.1).1 HNK.out.1⟩, ⟨HSX.out.2.2.block HW2.out.2.2.2.2.2.1 HNK.out.2, HSX.out.2.2.out (Array.getElem?_eq_some_iff.1 HW2.out.2.2.2.2.2.1).1 HNK.out.2⟩, by have := HC7.out.2.1.lt.2; omega⟩)
    have HFIN := Lib.hid (fun (D2 : Nat → Prop) (sv2 tv2 : Value) (wq : World) (v : Int) (s2 : RunS) (hS : MSt w0 (some ⟨ub, uo, none⟩) us.length uc rb N D2 sv2 tv2 wq s2) (hT : Step (fun k => D7 k ∨ k = gb) Wx (fun k => D2 k ∨ k = gb) wq) (hRv : R = (v, s2)) =>
      show ∃ D' sv' tv', MSt w0 (some ⟨ub, uo, none⟩) us.length uc rb N D' sv' tv' wq R.2 ∧ Step D w D' wq from by
        rw [hRv]
        exact ⟨D2, sv2, tv2, hS, Step.base HW2.out.1 (HSX.out.2.2.trans hT) HW2.out.2.1⟩)
    have x0 := cell_of_row _ _ 0 _ _ _ HXB.out.1
    have x1 := cell_of_row _ _ 1 _ _ _ HXB.out.1
    simp only [List.getElem?_toArray, List.getElem?_cons_zero, List.getElem?_cons_succ] at x0 x1
    clear hxb
    have hcase : fr = -1 ∨ (∃ f : Nat, fr = (f : Int) ∧ phis.length = 0) ∨ (∃ f : Nat, fr = (f : Int) ∧ 0 < phis.length ∧ (f : Int) ∈ predsC ⟨params, (n : Int), blocks⟩ bn) := by
      rcases HX.out.2.2.2.1 with h | ⟨f, h1, h2⟩
      · exact .inl h
      · by_cases hp : phis.length = 0
        · exact .inr (.inl ⟨f, h1, hp⟩)
        · exact .inr (.inr ⟨f, h1, by omega, h2⟩)
    rcases hcase with rfl | ⟨f, rfl, hp0⟩ | ⟨f, rfl, hpp, hfm⟩
    · have HPI := Lib.hid (phiIn_none (c := ⟨params, (n : Int), blocks⟩) (b := bn) (regs := regs))
      obtain ⟨regs2, hrg2⟩ : ∃ r, r = regs := ⟨_, rfl⟩
      have HC8 := Lib.hid (show MCSt w0 (some ⟨ub, uo, none⟩) us.length uc rb N gb n D7 Wx D7 sv1 tv7 Wx regs2 (addT true s1 bn) from ⟨HSX.out.1, by rw [hrg2]; exact HSX.out.2.1, Step.refl _ _, addT_good HX.out.1.good, (addT_fin _ _ _).trans HX.out.1.fin⟩)
      replace HPI := Lib.hid (HPI.out.trans hrg2.symm)
      clear hrg2 x0
      go_wp2
      obtain ⟨RI, hRI⟩ : ∃ RI, RI = insAll doD (codeRun doD predsC us d) ins regs2 (addT true s1 bn) := ⟨_, rfl⟩
      have HRI := Lib.hid hRI
      have hleft : (addT true s1 bn).left = s1.left := addT_left _ _ _
      have HRL := Lib.hid (show RI.2.left ≤ s1.left ∧ RI.2.trace.length = s1.trace.length + 1 from by
        rw [hRI, ← hleft]
        refine ⟨(grow_insAll (doF := doD) (grow_code us d) ins regs2 (addT true s1 bn)).left, ?_⟩
        rw [insAll_trace ins (fun y hy ho inp s => code_trace us HU.out.2.2.1.callsOk d y.num.toNat inp s (by
          have h1 := ((HBK.out.2.1.ins y hy).call ho)
          have := HTR.out.1
          omega)) regs2 (addT true s1 bn)]
        show (s1.trace ++ [bn]).length = _
        rw [List.length_append, List.length_singleton])
      clear hRI hleft
      go_loopg [87] ins.length (fun FF i wq => ∃ j : Nat, j + FF = ins.length ∧ i = .int .i64 j ∧ ∃ regs3 s3 D3 sv3 tv3, Hid (MCSt w0 (some ⟨ub, uo, none⟩) us.length uc rb N gb n D7 Wx D3 sv3 tv3 wq regs3 s3 ∧ insAll doD (codeRun doD predsC us d) (ins.drop j) regs3 s3 = RI))
      case atStart => exact ⟨0, by omega, rfl, _, _, _, _, _, Lib.hid ⟨HC8.out, HRI.out.symm⟩⟩
      case round =>
        obtain ⟨j, hj, rfl, regs3, s3, D3, sv3, tv3, HY⟩ := hrel
        clear HC8
        by_cases hlt : j < ins.length
        · obtain ⟨ib, io, op, tq2, args, num, aa, ac, hia, hy, i0, i1, i2, i3, hyR⟩ := ins_place HBK.out.2.2.1 hlt
          cases hia
          have hji : (j : Int) < (ins.length : Int) := by omega
          have HDR := Lib.hid (drop_of hy)
          have hyv := HBK.out.2.1.ins _ (List.mem_of_getElem? hy)
          have i0 := cell_later HY.out.1.st.base i0
          have i1 := cell_later HY.out.1.st.base i1
          have i2 := cell_later HY.out.1.st.base i2
          have i3 := cell_later HY.out.1.st.base i3
          have hba : Below wr.heap.size wr (wr.alloc (.cells #[.int .i64 op, .int .i64 tq2, .slice aa args.length ac, .int .i64 num] 83)) := (Below.refl _ _).alloc (Nat.le_refl _) _
          have hgrow := HY.out.1.step.block HKX.out.2.1.1 HKX.out.2.1.2
          have g0 := cell_later hba (cell_of_row _ _ 0 _ _ _ hgrow)
          cases hfin : s3.take.fin with
          | some en =>
            have HOV := Lib.hid (show Calls Try.prog 50 #[.pointer (some ⟨rb, 0, none⟩), .agg #[.int .i64 op, .int .i64 tq2, .slice aa args.length ac, .int .i64 num], .slice (some ⟨gb, 0, none⟩) n n] (wr.alloc (.cells #[.int .i64 op, .int .i64 tq2, .slice aa args.length ac, .int .i64 num] 83)) _ from insI_over (X := [.int .i64 op, .int .i64 tq2, .slice aa args.length ac, .int .i64 num]) hNN (HY.out.1.st.later hba) (HY.out.1.rg.later hba) HY.out.1.fin hfin)
            have HEN := Lib.hid (show R = (0, s3.take) by
              have h1 := HY.out.2
              rw [HDR.out, insAll_stop1 hfin] at h1
              rw [← HX.out.2.2.2.2, HPI.out, block_over HBK.out.1 HRI.out.symm (by rw [← h1]; exact hfin), ← h1])
            have HFI := Lib.hid hfin
            have HBA := Lib.hid hba
            clear hfin hyv hyR hy hba hgrow
            go_wp2_with fail
            refine HOV.out.mono ?_
            rintro e w3 ⟨he, hS3, hT3⟩
            obtain rfl : e = endPanic en := he
            exact ⟨rfl, by rw [HEN.out, HFI.out]; rfl, HFIN.out D3 sv3 tv3 w3 0 s3.take hS3 (HY.out.1.step.trans ((Step.new HBA.out).trans hT3.plus)) HEN.out⟩
          | none =>
            have HFI := Lib.hid hfin
            have htl := RunS.take_lt hfin
            have hsm : s3.take.said.length + s3.take.left < 60000 := by rw [take_said]; have := HY.out.1.good.small; omega
            have HG := Lib.hid (And.intro HY.out.1.good.take (And.intro hsm hyv))
            have HCALL := Lib.hid (show Calls Try.prog 50 #[.pointer (some ⟨rb, 0, none⟩), .agg #[.int .i64 op, .int .i64 tq2, .slice aa args.length ac, .int .i64 num], .slice (some ⟨gb, 0, none⟩) n n] (wr.alloc (.cells #[.int .i64 op, .int .i64 tq2, .slice aa args.length ac, .int .i64 num] 83)) _ from insI_any (c := ⟨params, (n : Int), blocks⟩) HU.out.2.2.1 HU.out.2.2.2.1 hklt hyv _ hyR rfl hnn hNN (HY.out.1.st.later hba) (HY.out.1.rg.later hba) HY.out.1.good HY.out.1.fin hfin)
            have HGI := Lib.hid (good_ins (call := codeRun doD predsC us d) doD_ok (good_code doD_ok us HU.out.2.2.1.numOk d) ⟨op, tq2, args, num⟩ (HU.out.2.2.1.numOk _ (List.mem_of_getElem? HU.out.2.2.2.2.1) _ (List.mem_of_getElem? HBK.out.1) _ (List.mem_of_getElem? hy)) regs3 s3.take HY.out.1.rg.byts HG.out.1 HG.out.2.1)
            have HBA := Lib.hid hba
            clear hfin hyv hyR hy htl hsm hba hgrow
            obtain ⟨r, hr⟩ : ∃ r, r = insRun doD (codeRun doD predsC us d) ⟨op, tq2, args, num⟩ regs3 s3.take := ⟨_, rfl⟩
            rw [← hr] at HCALL HGI
            have HRR := Lib.hid hr
            clear hr
            cases hf4 : r.2.fin with
            | some en =>
              rw [hf4] at HCALL
              have HEN := Lib.hid (show R = (0, r.2) by
                have h1 := HY.out.2
                rw [HDR.out, insAll_stop2 HFI.out (by rw [← HRR.out]; exact hf4), ← HRR.out] at h1
                rw [← HX.out.2.2.2.2, HPI.out, block_over HBK.out.1 HRI.out.symm (by rw [← h1]; exact hf4), ← h1])
              have HF4 := Lib.hid hf4
              clear hf4
              go_wp2_with fail
              refine HCALL.out.mono ?_
              rintro e w4 ⟨he, D4, sv4, tv4, hS4, -, hT4⟩
              obtain rfl : e = endPanic en := he
              exact ⟨rfl, by rw [HEN.out, HF4.out]; rfl, HFIN.out D4 sv4 tv4 w4 0 r.2 hS4 (HY.out.1.step.trans ((Step.new HBA.out).trans hT4)) HEN.out⟩
            | none =>
              rw [hf4] at HCALL
              have HF4 := Lib.hid hf4
              clear hf4
              go_wp2_with fail
              refine HCALL.out.mono ?_
              rintro e w4 ⟨he, D4, sv4, tv4, hS4, hR4, hT4⟩
              obtain rfl : e = .returned (.tuple #[]) := he
              have HN := Lib.hid (show MCSt w0 (some ⟨ub, uo, none⟩) us.length uc rb N gb n D7 Wx D4 sv4 tv4 w4 r.1 r.2 ∧ insAll doD (codeRun doD predsC us d) (ins.drop (j + 1)) r.1 r.2 = RI from
                ⟨⟨hS4, hR4 HF4.out, HY.out.1.step.trans ((Step.new HBA.out).trans hT4), HGI.out.2, HF4.out⟩, by
                  have h1 := HY.out.2
                  rw [HDR.out, insAll_go HFI.out (by rw [← HRR.out]; exact HF4.out), ← HRR.out] at h1
                  exact h1⟩)
              clear hS4 hR4 hT4 i0 i1 i2 i3 g0
              go_wp2
              go_roundg (ins.length - (j + 1))
              case measure => omega
              case rel => exact ⟨j + 1, by omega, by go_num, r.1, r.2, D4, sv4, tv4, HN⟩
        · obtain rfl : j = ins.length := by omega
          have HEQ := Lib.hid (show RI = (regs3, s3) by
            have h1 := HY.out.2
            rw [List.drop_length] at h1
            exact h1.symm)
          have HTK := Lib.hid (tickI_any HY.out.1.st hNN HY.out.1.fin)
          cases hfin : s3.take.fin with
          | some en =>
            rw [hfin] at HTK
            have HFI := Lib.hid hfin
            have HEN := Lib.hid (show R = (0, s3.take) by
              rw [← HX.out.2.2.2.2, HPI.out, block_fuel HBK.out.1 (HRI.out.symm.trans HEQ.out) HY.out.1.fin hfin])
            clear hfin
            go_wp2_with fail
            refine HTK.out.mono ?_
            rintro e w3 ⟨he, hS3, hT3⟩
            obtain rfl : e = endPanic en := he
            exact ⟨rfl, by rw [HEN.out, HFI.out]; rfl, HFIN.out D3 sv3 tv3 w3 0 s3.take hS3 (HY.out.1.step.trans hT3.plus) HEN.out⟩
          | none =>
            rw [hfin] at HTK
            have HFI := Lib.hid hfin
            have HG := Lib.hid (And.intro HY.out.1.good.take (RunS.take_lt hfin))
            clear hfin
            go_wp2_with fail
            refine HTK.out.mono ?_
            rintro e w3 ⟨he, hS3, hT3⟩
            obtain rfl : e = .returned (.tuple #[]) := he
            have hx3 := HY.out.1.step.trans hT3.plus
            have HC3 := Lib.hid (show MCSt w0 (some ⟨ub, uo, none⟩) us.length uc rb N gb n D w2 D3 sv3 tv3 w3 regs3 s3.take ∧ Step (fun k => D7 k ∨ k = gb) Wx (fun k => D3 k ∨ k = gb) w3 from
              ⟨⟨hS3, HY.out.1.rg.stay hT3.turned HY.out.1.rg.out (hT3.out HY.out.1.rg.lt.2 HY.out.1.rg.out), HSX.out.2.2.trans hx3, HG.out.1, HFI.out⟩, hx3⟩)
            have hxrow := hx3.block HXB.out.1 HXB.out.2
            have hgrow := hx3.block HKX.out.2.1.1 HKX.out.2.1.2
            have x2 := cell_of_row _ _ 2 _ _ _ hxrow
            have x3 := cell_of_row _ _ 3 _ _ _ hxrow
            have x4 := cell_of_row _ _ 4 _ _ _ hxrow
            have g0 := cell_of_row _ _ 0 _ _ _ hgrow
            simp only [List.getElem?_toArray, List.getElem?_cons_zero, List.getElem?_cons_succ] at x2 x3 x4 g0
            clear hxrow hgrow hx3 hS3 hT3
            rcases HBK.out.2.1.jump with ⟨hj1, hnl⟩ | ⟨hj2, hnl⟩ | ⟨hj3, hnl⟩
            · obtain rfl : jump = 1 := hj1
              change nx.length = 1 at hnl
              rw [hnl] at x4
              obtain ⟨nb, no, y0, hna, hy0, n0⟩ := HBK.out.2.2.2.place (i := 0) (by omega)
              cases hna
              rw [Nat.add_zero] at n0
              have n0 := cell_later HC3.out.1.st.base n0
              have HNX := Lib.hid (show ∀ nn : Nat, y0 = (nn : Int) → nextOf ⟨phis, ins, 1, jon, nx⟩ regs3 = nn from fun nn e => by
                unfold nextOf
                rw [if_pos (.inl rfl)]
                show (nx.getD 0 0).toNat = nn
                rw [List.getD_eq_getElem?_getD, hy0, e]; rfl)
              have HJ := Lib.hid (show (1 : Int) ≠ 3 by omega)
              clear hnl
              have hyr := HBK.out.2.1.nx y0 (List.mem_of_getElem? hy0)
              change 1 ≤ y0 ∧ y0 < (blocks.length : Int) at hyr
              obtain ⟨nn, rfl⟩ : ∃ i : Nat, y0 = (i : Int) := ⟨y0.toNat, by omega⟩
              have hnb : nn < blocks.length := by omega
              obtain ⟨y, hyb⟩ : ∃ y, blocks[nn]? = some y := ⟨_, List.getElem?_eq_getElem hnb⟩
              have HN := Lib.hid (show MCSt w0 (some ⟨ub, uo, none⟩) us.length uc rb N gb n D w2 D3 sv3 tv3 w3 regs3 s3.take ∧ s3.take.left < F ∧ s3.take.trace.length + s3.take.left ≤ 60000 ∧ ((bn : Int) = -1 ∨ ∃ f : Nat, (bn : Int) = (f : Int) ∧ (f : Int) ∈ predsC ⟨params, (n : Int), blocks⟩ nn) ∧ blockRun doD (codeRun doD predsC us d) predsC ⟨params, (n : Int), blocks⟩ true F nn (phiIn ⟨params, (n : Int), blocks⟩ nn (bn : Int) regs3) s3.take = R from by
                have h1 := HRL.out
                rw [HEQ.out] at h1
                have h2 := HX.out.2.1
                have h3 := HG.out.2
                dsimp only at h1
                refine ⟨HC3.out.1, by omega, by rw [take_trace]; have := HX.out.2.2.1; omega, .inr ⟨bn, rfl, preds_mem HBK.out.1 (List.mem_of_getElem? hy0)⟩, ?_⟩
                rw [phiIn_from hyb, ← HX.out.2.2.2.2, HPI.out, block_next HBK.out.1 (HRI.out.symm.trans HEQ.out) HY.out.1.fin HFI.out HJ.out (HNX.out nn rfl) hyb])
              clear hy0 hyr hyb
              go_wp2
              go_roundg F
              case measure => omega
              case rel => exact ⟨nn, (bn : Int), by go_num, by go_num, hnb, _, _, _, _, _, HN⟩
            · obtain rfl : jump = 2 := hj2
              change nx.length = 2 at hnl
              rw [hnl] at x4
              have hjon := HBK.out.2.1.jon rfl
              change 0 ≤ jon ∧ jon < (n : Int) at hjon
              obtain ⟨jj, rfl⟩ : ∃ i : Nat, jon = (i : Int) := ⟨jon.toNat, by omega⟩
              have hjn : (jj : Int) < (n : Int) := hjon.2
              have rj := HC3.out.1.rg.at (j := jj) (by omega)
              have HJ := Lib.hid (show (2 : Int) ≠ 3 by omega)
              by_cases hv : atI regs3 (jj : Int) = 0
              · obtain ⟨nb, no, y0, hna, hy0, n0⟩ := HBK.out.2.2.2.place (i := 1) (by omega)
                cases hna
                have n0 := cell_later HC3.out.1.st.base n0
                rw [hv] at rj
                have HNX := Lib.hid (show ∀ nn : Nat, y0 = (nn : Int) → nextOf ⟨phis, ins, 2, (jj : Int), nx⟩ regs3 = nn from fun nn e => by
                  unfold nextOf
                  rw [if_neg (by rintro (h | h); · cases h
                                 · exact h hv)]
                  show (nx.getD 1 0).toNat = nn
                  rw [List.getD_eq_getElem?_getD, hy0, e]; rfl)
                clear hnl hv hjon
                have hyr := HBK.out.2.1.nx y0 (List.mem_of_getElem? hy0)
                change 1 ≤ y0 ∧ y0 < (blocks.length : Int) at hyr
                obtain ⟨nn, rfl⟩ : ∃ i : Nat, y0 = (i : Int) := ⟨y0.toNat, by omega⟩
                have hnb : nn < blocks.length := by omega
                obtain ⟨y, hyb⟩ : ∃ y, blocks[nn]? = some y := ⟨_, List.getElem?_eq_getElem hnb⟩
                have HN := Lib.hid (show MCSt w0 (some ⟨ub, uo, none⟩) us.length uc rb N gb n D w2 D3 sv3 tv3 w3 regs3 s3.take ∧ s3.take.left < F ∧ s3.take.trace.length + s3.take.left ≤ 60000 ∧ ((bn : Int) = -1 ∨ ∃ f : Nat, (bn : Int) = (f : Int) ∧ (f : Int) ∈ predsC ⟨params, (n : Int), blocks⟩ nn) ∧ blockRun doD (codeRun doD predsC us d) predsC ⟨params, (n : Int), blocks⟩ true F nn (phiIn ⟨params, (n : Int), blocks⟩ nn (bn : Int) regs3) s3.take = R from by
                  have h1 := HRL.out
                  rw [HEQ.out] at h1
                  have h2 := HX.out.2.1
                  have h3 := HG.out.2
                  dsimp only at h1
                  refine ⟨HC3.out.1, by omega, by rw [take_trace]; have := HX.out.2.2.1; omega, .inr ⟨bn, rfl, preds_mem HBK.out.1 (List.mem_of_getElem? hy0)⟩, ?_⟩
                  rw [phiIn_from hyb, ← HX.out.2.2.2.2, HPI.out, block_next HBK.out.1 (HRI.out.symm.trans HEQ.out) HY.out.1.fin HFI.out HJ.out (HNX.out nn rfl) hyb])
                clear hy0 hyr hyb
                go_wp2
                go_roundg F
                case measure => omega
                case rel => exact ⟨nn, (bn : Int), by go_num, by go_num, hnb, _, _, _, _, _, HN⟩
              · obtain ⟨nb, no, y0, hna, hy0, n0⟩ := HBK.out.2.2.2.place (i := 0) (by omega)
                cases hna
                rw [Nat.add_zero] at n0
                have n0 := cell_later HC3.out.1.st.base n0
                have HNX := Lib.hid (show ∀ nn : Nat, y0 = (nn : Int) → nextOf ⟨phis, ins, 2, (jj : Int), nx⟩ regs3 = nn from fun nn e => by
                  unfold nextOf
                  rw [if_pos (.inr hv)]
                  show (nx.getD 0 0).toNat = nn
                  rw [List.getD_eq_getElem?_getD, hy0, e]; rfl)
                have hvn : (atI regs3 (jj : Int) == 0) = false := by rw [beq_eq_false_iff_ne]; exact hv
                generalize atI regs3 (jj : Int) = vv at rj hvn
                clear hnl hv hjon
                have hyr := HBK.out.2.1.nx y0 (List.mem_of_getElem? hy0)
                change 1 ≤ y0 ∧ y0 < (blocks.length : Int) at hyr
                obtain ⟨nn, rfl⟩ : ∃ i : Nat, y0 = (i : Int) := ⟨y0.toNat, by omega⟩
                have hnb : nn < blocks.length := by omega
                obtain ⟨y, hyb⟩ : ∃ y, blocks[nn]? = some y := ⟨_, List.getElem?_eq_getElem hnb⟩
                have HN := Lib.hid (show MCSt w0 (some ⟨ub, uo, none⟩) us.length uc rb N gb n D w2 D3 sv3 tv3 w3 regs3 s3.take ∧ s3.take.left < F ∧ s3.take.trace.length + s3.take.left ≤ 60000 ∧ ((bn : Int) = -1 ∨ ∃ f : Nat, (bn : Int) = (f : Int) ∧ (f : Int) ∈ predsC ⟨params, (n : Int), blocks⟩ nn) ∧ blockRun doD (codeRun doD predsC us d) predsC ⟨params, (n : Int), blocks⟩ true F nn (phiIn ⟨params, (n : Int), blocks⟩ nn (bn : Int) regs3) s3.take = R from by
                  have h1 := HRL.out
                  rw [HEQ.out] at h1
                  have h2 := HX.out.2.1
                  have h3 := HG.out.2
                  dsimp only at h1
                  refine ⟨HC3.out.1, by omega, by rw [take_trace]; have := HX.out.2.2.1; omega, .inr ⟨bn, rfl, preds_mem HBK.out.1 (List.mem_of_getElem? hy0)⟩, ?_⟩
                  rw [phiIn_from hyb, ← HX.out.2.2.2.2, HPI.out, block_next HBK.out.1 (HRI.out.symm.trans HEQ.out) HY.out.1.fin HFI.out HJ.out (HNX.out nn rfl) hyb])
                clear hy0 hyr hyb
                go_wp2
                go_roundg F
                case measure => omega
                case rel => exact ⟨nn, (bn : Int), by go_num, by go_num, hnb, _, _, _, _, _, HN⟩
            · obtain rfl : jump = 3 := hj3
              have hjon := HBK.out.2.1.jon rfl
              change 0 ≤ jon ∧ jon < (n : Int) at hjon
              obtain ⟨jj, rfl⟩ : ∃ i : Nat, jon = (i : Int) := ⟨jon.toNat, by omega⟩
              have hjn : (jj : Int) < (n : Int) := hjon.2
              have rj := HC3.out.1.rg.at (j := jj) (by omega)
              have HEN := Lib.hid (show R = (atI regs3 (jj : Int), s3.take) by
                rw [← HX.out.2.2.2.2, HPI.out, block_back HBK.out.1 (HRI.out.symm.trans HEQ.out) HY.out.1.fin HFI.out rfl])
              have HE := Lib.hid (HFIN.out D3 sv3 tv3 w3 _ s3.take HC3.out.1.st HC3.out.2 HEN.out)
              generalize atI regs3 (jj : Int) = v at rj HE HEN
              clear hnl hjon
              go_wp2
              go_ret
              exact ⟨by rw [HEN.out, HFI.out]; rfl, HE.out⟩
    · have HPI := Lib.hid (show phiIn ⟨params, (n : Int), blocks⟩ bn (f : Int) regs = regs by rw [phiIn_from HBK.out.1, List.length_eq_zero_iff.1 hp0]; rfl)
      obtain ⟨regs2, hrg2⟩ : ∃ r, r = regs := ⟨_, rfl⟩
      have HC8 := Lib.hid (show MCSt w0 (some ⟨ub, uo, none⟩) us.length uc rb N gb n D7 Wx D7 sv1 tv7 Wx regs2 (addT true s1 bn) from ⟨HSX.out.1, by rw [hrg2]; exact HSX.out.2.1, Step.refl _ _, addT_good HX.out.1.good, (addT_fin _ _ _).trans HX.out.1.fin⟩)
      replace HPI := Lib.hid (HPI.out.trans hrg2.symm)
      have hfge : decide ((f : Int) ≥ 0) = true := decide_eq_true (by omega)
      rw [hp0] at x0
      clear hrg2 hp0
      go_wp2
      clear x0 hfge
      obtain ⟨RI, hRI⟩ : ∃ RI, RI = insAll doD (codeRun doD predsC us d) ins regs2 (addT true s1 bn) := ⟨_, rfl⟩
      have HRI := Lib.hid hRI
      have hleft : (addT true s1 bn).left = s1.left := addT_left _ _ _
      have HRL := Lib.hid (show RI.2.left ≤ s1.left ∧ RI.2.trace.length = s1.trace.length + 1 from by
        rw [hRI, ← hleft]
        refine ⟨(grow_insAll (doF := doD) (grow_code us d) ins regs2 (addT true s1 bn)).left, ?_⟩
        rw [insAll_trace ins (fun y hy ho inp s => code_trace us HU.out.2.2.1.callsOk d y.num.toNat inp s (by
          have h1 := ((HBK.out.2.1.ins y hy).call ho)
          have := HTR.out.1
          omega)) regs2 (addT true s1 bn)]
        show (s1.trace ++ [bn]).length = _
        rw [List.length_append, List.length_singleton])
      clear hRI hleft
      go_loopg [87] ins.length (fun FF i wq => ∃ j : Nat, j + FF = ins.length ∧ i = .int .i64 j ∧ ∃ regs3 s3 D3 sv3 tv3, Hid (MCSt w0 (some ⟨ub, uo, none⟩) us.length uc rb N gb n D7 Wx D3 sv3 tv3 wq regs3 s3 ∧ insAll doD (codeRun doD predsC us d) (ins.drop j) regs3 s3 = RI))
      case atStart => exact ⟨0, by omega, rfl, _, _, _, _, _, Lib.hid ⟨HC8.out, HRI.out.symm⟩⟩
      case round =>
        obtain ⟨j, hj, rfl, regs3, s3, D3, sv3, tv3, HY⟩ := hrel
        clear HC8
        by_cases hlt : j < ins.length
        · obtain ⟨ib, io, op, tq2, args, num, aa, ac, hia, hy, i0, i1, i2, i3, hyR⟩ := ins_place HBK.out.2.2.1 hlt
          cases hia
          have hji : (j : Int) < (ins.length : Int) := by omega
          have HDR := Lib.hid (drop_of hy)
          have hyv := HBK.out.2.1.ins _ (List.mem_of_getElem? hy)
          have i0 := cell_later HY.out.1.st.base i0
          have i1 := cell_later HY.out.1.st.base i1
          have i2 := cell_later HY.out.1.st.base i2
          have i3 := cell_later HY.out.1.st.base i3
          have hba : Below wr.heap.size wr (wr.alloc (.cells #[.int .i64 op, .int .i64 tq2, .slice aa args.length ac, .int .i64 num] 83)) := (Below.refl _ _).alloc (Nat.le_refl _) _
          have hgrow := HY.out.1.step.block HKX.out.2.1.1 HKX.out.2.1.2
          have g0 := cell_later hba (cell_of_row _ _ 0 _ _ _ hgrow)
          cases hfin : s3.take.fin with
          | some en =>
            have HOV := Lib.hid (show Calls Try.prog 50 #[.pointer (some ⟨rb, 0, none⟩), .agg #[.int .i64 op, .int .i64 tq2, .slice aa args.length ac, .int .i64 num], .slice (some ⟨gb, 0, none⟩) n n] (wr.alloc (.cells #[.int .i64 op, .int .i64 tq2, .slice aa args.length ac, .int .i64 num] 83)) _ from insI_over (X := [.int .i64 op, .int .i64 tq2, .slice aa args.length ac, .int .i64 num]) hNN (HY.out.1.st.later hba) (HY.out.1.rg.later hba) HY.out.1.fin hfin)
            have HEN := Lib.hid (show R = (0, s3.take) by
              have h1 := HY.out.2
              rw [HDR.out, insAll_stop1 hfin] at h1
              rw [← HX.out.2.2.2.2, HPI.out, block_over HBK.out.1 HRI.out.symm (by rw [← h1]; exact hfin), ← h1])
            have HFI := Lib.hid hfin
            have HBA := Lib.hid hba
            clear hfin hyv hyR hy hba hgrow
            go_wp2_with fail
            refine HOV.out.mono ?_
            rintro e w3 ⟨he, hS3, hT3⟩
            obtain rfl : e = endPanic en := he
            exact ⟨rfl, by rw [HEN.out, HFI.out]; rfl, HFIN.out D3 sv3 tv3 w3 0 s3.take hS3 (HY.out.1.step.trans ((Step.new HBA.out).trans hT3.plus)) HEN.out⟩
          | none =>
            have HFI := Lib.hid hfin
            have htl := RunS.take_lt hfin
            have hsm : s3.take.said.length + s3.take.left < 60000 := by rw [take_said]; have := HY.out.1.good.small; omega
            have HG := Lib.hid (And.intro HY.out.1.good.take (And.intro hsm hyv))
            have HCALL := Lib.hid (show Calls Try.prog 50 #[.pointer (some ⟨rb, 0, none⟩), .agg #[.int .i64 op, .int .i64 tq2, .slice aa args.length ac, .int .i64 num], .slice (some ⟨gb, 0, none⟩) n n] (wr.alloc (.cells #[.int .i64 op, .int .i64 tq2, .slice aa args.length ac, .int .i64 num] 83)) _ from insI_any (c := ⟨params, (n : Int), blocks⟩) HU.out.2.2.1 HU.out.2.2.2.1 hklt hyv _ hyR rfl hnn hNN (HY.out.1.st.later hba) (HY.out.1.rg.later hba) HY.out.1.good HY.out.1.fin hfin)
            have HGI := Lib.hid (good_ins (call := codeRun doD predsC us d) doD_ok (good_code doD_ok us HU.out.2.2.1.numOk d) ⟨op, tq2, args, num⟩ (HU.out.2.2.1.numOk _ (List.mem_of_getElem? HU.out.2.2.2.2.1) _ (List.mem_of_getElem? HBK.out.1) _ (List.mem_of_getElem? hy)) regs3 s3.take HY.out.1.rg.byts HG.out.1 HG.out.2.1)
            have HBA := Lib.hid hba
            clear hfin hyv hyR hy htl hsm hba hgrow
            obtain ⟨r, hr⟩ : ∃ r, r = insRun doD (codeRun doD predsC us d) ⟨op, tq2, args, num⟩ regs3 s3.take := ⟨_, rfl⟩
            rw [← hr] at HCALL HGI
            have HRR := Lib.hid hr
            clear hr
            cases hf4 : r.2.fin with
            | some en =>
              rw [hf4] at HCALL
              have HEN := Lib.hid (show R = (0, r.2) by
                have h1 := HY.out.2
                rw [HDR.out, insAll_stop2 HFI.out (by rw [← HRR.out]; exact hf4), ← HRR.out] at h1
                rw [← HX.out.2.2.2.2, HPI.out, block_over HBK.out.1 HRI.out.symm (by rw [← h1]; exact hf4), ← h1])
              have HF4 := Lib.hid hf4
              clear hf4
              go_wp2_with fail
              refine HCALL.out.mono ?_
              rintro e w4 ⟨he, D4, sv4, tv4, hS4, -, hT4⟩
              obtain rfl : e = endPanic en := he
              exact ⟨rfl, by rw [HEN.out, HF4.out]; rfl, HFIN.out D4 sv4 tv4 w4 0 r.2 hS4 (HY.out.1.step.trans ((Step.new HBA.out).trans hT4)) HEN.out⟩
            | none =>
              rw [hf4] at HCALL
              have HF4 := Lib.hid hf4
              clear hf4
              go_wp2_with fail
              refine HCALL.out.mono ?_
              rintro e w4 ⟨he, D4, sv4, tv4, hS4, hR4, hT4⟩
              obtain rfl : e = .returned (.tuple #[]) := he
              have HN := Lib.hid (show MCSt w0 (some ⟨ub, uo, none⟩) us.length uc rb N gb n D7 Wx D4 sv4 tv4 w4 r.1 r.2 ∧ insAll doD (codeRun doD predsC us d) (ins.drop (j + 1)) r.1 r.2 = RI from
                ⟨⟨hS4, hR4 HF4.out, HY.out.1.step.trans ((Step.new HBA.out).trans hT4), HGI.out.2, HF4.out⟩, by
                  have h1 := HY.out.2
                  rw [HDR.out, insAll_go HFI.out (by rw [← HRR.out]; exact HF4.out), ← HRR.out] at h1
                  exact h1⟩)
              clear hS4 hR4 hT4 i0 i1 i2 i3 g0
              go_wp2
              go_roundg (ins.length - (j + 1))
              case measure => omega
              case rel => exact ⟨j + 1, by omega, by go_num, r.1, r.2, D4, sv4, tv4, HN⟩
        · obtain rfl : j = ins.length := by omega
          have HEQ := Lib.hid (show RI = (regs3, s3) by
            have h1 := HY.out.2
            rw [List.drop_length] at h1
            exact h1.symm)
          have HTK := Lib.hid (tickI_any HY.out.1.st hNN HY.out.1.fin)
          cases hfin : s3.take.fin with
          | some en =>
            rw [hfin] at HTK
            have HFI := Lib.hid hfin
            have HEN := Lib.hid (show R = (0, s3.take) by
              rw [← HX.out.2.2.2.2, HPI.out, block_fuel HBK.out.1 (HRI.out.symm.trans HEQ.out) HY.out.1.fin hfin])
            clear hfin
            go_wp2_with fail
            refine HTK.out.mono ?_
            rintro e w3 ⟨he, hS3, hT3⟩
            obtain rfl : e = endPanic en := he
            exact ⟨rfl, by rw [HEN.out, HFI.out]; rfl, HFIN.out D3 sv3 tv3 w3 0 s3.take hS3 (HY.out.1.step.trans hT3.plus) HEN.out⟩
          | none =>
            rw [hfin] at HTK
            have HFI := Lib.hid hfin
            have HG := Lib.hid (And.intro HY.out.1.good.take (RunS.take_lt hfin))
            clear hfin
            go_wp2_with fail
            refine HTK.out.mono ?_
            rintro e w3 ⟨he, hS3, hT3⟩
            obtain rfl : e = .returned (.tuple #[]) := he
            have hx3 := HY.out.1.step.trans hT3.plus
            have HC3 := Lib.hid (show MCSt w0 (some ⟨ub, uo, none⟩) us.length uc rb N gb n D w2 D3 sv3 tv3 w3 regs3 s3.take ∧ Step (fun k => D7 k ∨ k = gb) Wx (fun k => D3 k ∨ k = gb) w3 from
              ⟨⟨hS3, HY.out.1.rg.stay hT3.turned HY.out.1.rg.out (hT3.out HY.out.1.rg.lt.2 HY.out.1.rg.out), HSX.out.2.2.trans hx3, HG.out.1, HFI.out⟩, hx3⟩)
            have hxrow := hx3.block HXB.out.1 HXB.out.2
            have hgrow := hx3.block HKX.out.2.1.1 HKX.out.2.1.2
            have x2 := cell_of_row _ _ 2 _ _ _ hxrow
            have x3 := cell_of_row _ _ 3 _ _ _ hxrow
            have x4 := cell_of_row _ _ 4 _ _ _ hxrow
            have g0 := cell_of_row _ _ 0 _ _ _ hgrow
            simp only [List.getElem?_toArray, List.getElem?_cons_zero, List.getElem?_cons_succ] at x2 x3 x4 g0
            clear hxrow hgrow hx3 hS3 hT3
            rcases HBK.out.2.1.jump with ⟨hj1, hnl⟩ | ⟨hj2, hnl⟩ | ⟨hj3, hnl⟩
            · obtain rfl : jump = 1 := hj1
              change nx.length = 1 at hnl
              rw [hnl] at x4
              obtain ⟨nb, no, y0, hna, hy0, n0⟩ := HBK.out.2.2.2.place (i := 0) (by omega)
              cases hna
              rw [Nat.add_zero] at n0
              have n0 := cell_later HC3.out.1.st.base n0
              have HNX := Lib.hid (show ∀ nn : Nat, y0 = (nn : Int) → nextOf ⟨phis, ins, 1, jon, nx⟩ regs3 = nn from fun nn e => by
                unfold nextOf
                rw [if_pos (.inl rfl)]
                show (nx.getD 0 0).toNat = nn
                rw [List.getD_eq_getElem?_getD, hy0, e]; rfl)
              have HJ := Lib.hid (show (1 : Int) ≠ 3 by omega)
              clear hnl
              have hyr := HBK.out.2.1.nx y0 (List.mem_of_getElem? hy0)
              change 1 ≤ y0 ∧ y0 < (blocks.length : Int) at hyr
              obtain ⟨nn, rfl⟩ : ∃ i : Nat, y0 = (i : Int) := ⟨y0.toNat, by omega⟩
              have hnb : nn < blocks.length := by omega
              obtain ⟨y, hyb⟩ : ∃ y, blocks[nn]? = some y := ⟨_, List.getElem?_eq_getElem hnb⟩
              have HN := Lib.hid (show MCSt w0 (some ⟨ub, uo, none⟩) us.length uc rb N gb n D w2 D3 sv3 tv3 w3 regs3 s3.take ∧ s3.take.left < F ∧ s3.take.trace.length + s3.take.left ≤ 60000 ∧ ((bn : Int) = -1 ∨ ∃ f : Nat, (bn : Int) = (f : Int) ∧ (f : Int) ∈ predsC ⟨params, (n : Int), blocks⟩ nn) ∧ blockRun doD (codeRun doD predsC us d) predsC ⟨params, (n : Int), blocks⟩ true F nn (phiIn ⟨params, (n : Int), blocks⟩ nn (bn : Int) regs3) s3.take = R from by
                have h1 := HRL.out
                rw [HEQ.out] at h1
                have h2 := HX.out.2.1
                have h3 := HG.out.2
                dsimp only at h1
                refine ⟨HC3.out.1, by omega, by rw [take_trace]; have := HX.out.2.2.1; omega, .inr ⟨bn, rfl, preds_mem HBK.out.1 (List.mem_of_getElem? hy0)⟩, ?_⟩
                rw [phiIn_from hyb, ← HX.out.2.2.2.2, HPI.out, block_next HBK.out.1 (HRI.out.symm.trans HEQ.out) HY.out.1.fin HFI.out HJ.out (HNX.out nn rfl) hyb])
              clear hy0 hyr hyb
              go_wp2
              go_roundg F
              case measure => omega
              case rel => exact ⟨nn, (bn : Int), by go_num, by go_num, hnb, _, _, _, _, _, HN⟩
            · obtain rfl : jump = 2 := hj2
              change nx.length = 2 at hnl
              rw [hnl] at x4
              have hjon := HBK.out.2.1.jon rfl
              change 0 ≤ jon ∧ jon < (n : Int) at hjon
              obtain ⟨jj, rfl⟩ : ∃ i : Nat, jon = (i : Int) := ⟨jon.toNat, by omega⟩
              have hjn : (jj : Int) < (n : Int) := hjon.2
              have rj := HC3.out.1.rg.at (j := jj) (by omega)
              have HJ := Lib.hid (show (2 : Int) ≠ 3 by omega)
              by_cases hv : atI regs3 (jj : Int) = 0
              · obtain ⟨nb, no, y0, hna, hy0, n0⟩ := HBK.out.2.2.2.place (i := 1) (by omega)
                cases hna
                have n0 := cell_later HC3.out.1.st.base n0
                rw [hv] at rj
                have HNX := Lib.hid (show ∀ nn : Nat, y0 = (nn : Int) → nextOf ⟨phis, ins, 2, (jj : Int), nx⟩ regs3 = nn from fun nn e => by
                  unfold nextOf
                  rw [if_neg (by rintro (h | h); · cases h
                                 · exact h hv)]
                  show (nx.getD 1 0).toNat = nn
                  rw [List.getD_eq_getElem?_getD, hy0, e]; rfl)
                clear hnl hv hjon
                have hyr := HBK.out.2.1.nx y0 (List.mem_of_getElem? hy0)
                change 1 ≤ y0 ∧ y0 < (blocks.length : Int) at hyr
                obtain ⟨nn, rfl⟩ : ∃ i : Nat, y0 = (i : Int) := ⟨y0.toNat, by omega⟩
                have hnb : nn < blocks.length := by omega
                obtain ⟨y, hyb⟩ : ∃ y, blocks[nn]? = some y := ⟨_, List.getElem?_eq_getElem hnb⟩
                have HN := Lib.hid (show MCSt w0 (some ⟨ub, uo, none⟩) us.length uc rb N gb n D w2 D3 sv3 tv3 w3 regs3 s3.take ∧ s3.take.left < F ∧ s3.take.trace.length + s3.take.left ≤ 60000 ∧ ((bn : Int) = -1 ∨ ∃ f : Nat, (bn : Int) = (f : Int) ∧ (f : Int) ∈ predsC ⟨params, (n : Int), blocks⟩ nn) ∧ blockRun doD (codeRun doD predsC us d) predsC ⟨params, (n : Int), blocks⟩ true F nn (phiIn ⟨params, (n : Int), blocks⟩ nn (bn : Int) regs3) s3.take = R from by
                  have h1 := HRL.out
                  rw [HEQ.out] at h1
                  have h2 := HX.out.2.1
                  have h3 := HG.out.2
                  dsimp only at h1
                  refine ⟨HC3.out.1, by omega, by rw [take_trace]; have := HX.out.2.2.1; omega, .inr ⟨bn, rfl, preds_mem HBK.out.1 (List.mem_of_getElem? hy0)⟩, ?_⟩
                  rw [phiIn_from hyb, ← HX.out.2.2.2.2, HPI.out, block_next HBK.out.1 (HRI.out.symm.trans HEQ.out) HY.out.1.fin HFI.out HJ.out (HNX.out nn rfl) hyb])
                clear hy0 hyr hyb
                go_wp2
                go_roundg F
                case measure => omega
                case rel => exact ⟨nn, (bn : Int), by go_num, by go_num, hnb, _, _, _, _, _, HN⟩
              · obtain ⟨nb, no, y0, hna, hy0, n0⟩ := HBK.out.2.2.2.place (i := 0) (by omega)
                cases hna
                rw [Nat.add_zero] at n0
                have n0 := cell_later HC3.out.1.st.base n0
                have HNX := Lib.hid (show ∀ nn : Nat, y0 = (nn : Int) → nextOf ⟨phis, ins, 2, (jj : Int), nx⟩ regs3 = nn from fun nn e => by
                  unfold nextOf
                  rw [if_pos (.inr hv)]
                  show (nx.getD 0 0).toNat = nn
                  rw [List.getD_eq_getElem?_getD, hy0, e]; rfl)
                have hvn : (atI regs3 (jj : Int) == 0) = false := by rw [beq_eq_false_iff_ne]; exact hv
                generalize atI regs3 (jj : Int) = vv at rj hvn
                clear hnl hv hjon
                have hyr := HBK.out.2.1.nx y0 (List.mem_of_getElem? hy0)
                change 1 ≤ y0 ∧ y0 < (blocks.length : Int) at hyr
                obtain ⟨nn, rfl⟩ : ∃ i : Nat, y0 = (i : Int) := ⟨y0.toNat, by omega⟩
                have hnb : nn < blocks.length := by omega
                obtain ⟨y, hyb⟩ : ∃ y, blocks[nn]? = some y := ⟨_, List.getElem?_eq_getElem hnb⟩
                have HN := Lib.hid (show MCSt w0 (some ⟨ub, uo, none⟩) us.length uc rb N gb n D w2 D3 sv3 tv3 w3 regs3 s3.take ∧ s3.take.left < F ∧ s3.take.trace.length + s3.take.left ≤ 60000 ∧ ((bn : Int) = -1 ∨ ∃ f : Nat, (bn : Int) = (f : Int) ∧ (f : Int) ∈ predsC ⟨params, (n : Int), blocks⟩ nn) ∧ blockRun doD (codeRun doD predsC us d) predsC ⟨params, (n : Int), blocks⟩ true F nn (phiIn ⟨params, (n : Int), blocks⟩ nn (bn : Int) regs3) s3.take = R from by
                  have h1 := HRL.out
                  rw [HEQ.out] at h1
                  have h2 := HX.out.2.1
                  have h3 := HG.out.2
                  dsimp only at h1
                  refine ⟨HC3.out.1, by omega, by rw [take_trace]; have := HX.out.2.2.1; omega, .inr ⟨bn, rfl, preds_mem HBK.out.1 (List.mem_of_getElem? hy0)⟩, ?_⟩
                  rw [phiIn_from hyb, ← HX.out.2.2.2.2, HPI.out, block_next HBK.out.1 (HRI.out.symm.trans HEQ.out) HY.out.1.fin HFI.out HJ.out (HNX.out nn rfl) hyb])
                clear hy0 hyr hyb
                go_wp2
                go_roundg F
                case measure => omega
                case rel => exact ⟨nn, (bn : Int), by go_num, by go_num, hnb, _, _, _, _, _, HN⟩
            · obtain rfl : jump = 3 := hj3
              have hjon := HBK.out.2.1.jon rfl
              change 0 ≤ jon ∧ jon < (n : Int) at hjon
              obtain ⟨jj, rfl⟩ : ∃ i : Nat, jon = (i : Int) := ⟨jon.toNat, by omega⟩
              have hjn : (jj : Int) < (n : Int) := hjon.2
              have rj := HC3.out.1.rg.at (j := jj) (by omega)
              have HEN := Lib.hid (show R = (atI regs3 (jj : Int), s3.take) by
                rw [← HX.out.2.2.2.2, HPI.out, block_back HBK.out.1 (HRI.out.symm.trans HEQ.out) HY.out.1.fin HFI.out rfl])
              have HE := Lib.hid (HFIN.out D3 sv3 tv3 w3 _ s3.take HC3.out.1.st HC3.out.2 HEN.out)
              generalize atI regs3 (jj : Int) = v at rj HE HEN
              clear hnl hjon
              go_wp2
              go_ret
              exact ⟨by rw [HEN.out, HFI.out]; rfl, HE.out⟩
    · obtain ⟨L, hL⟩ : ∃ L, L = predsC ⟨params, (n : Int), blocks⟩ bn := ⟨_, rfl⟩
      obtain ⟨pl, hpl'⟩ : ∃ k, k = L.idxOf (f : Int) := ⟨_, rfl⟩
      rw [← hL] at hfm
      have hPV := (HU.out.2.2.1.code k _ HU.out.2.2.2.2.1).blk bn _ HBK.out.1
      have HPL := Lib.hid (show ∀ g ∈ phis, (0 ≤ g.to ∧ g.to < (n : Int)) ∧ g.args.length = L.length ∧ ∀ r ∈ g.args, 0 ≤ r ∧ r < (n : Int) from fun g hg => by
        have h1 := hPV.phis g hg
        rw [hL]
        exact ⟨h1.2.1, h1.2.2.1, h1.2.2.2⟩)
      have hat : L[pl]? = some (f : Int) := hpl' ▸ idxOf_at hfm
      have hpll : pl < L.length := (List.getElem?_eq_some_iff.1 hat).1
      have HIE := Lib.hid (show idxInt (f : Int) L = (pl : Int) from idxInt_some (fun j y hj hy => idxOf_first (L := L) (v := (f : Int)) (hpl' ▸ hj) hy) hat)
      have hLl : L.length ≤ 160 := by rw [hL]; exact Nat.le_trans (preds_len _ _) (by simp [nxs]; exact hcb.2)
      have HPI := Lib.hid (show phiIn ⟨params, (n : Int), blocks⟩ bn (f : Int) regs = phiAll phis pl regs by rw [phiIn_from HBK.out.1, hpl', hL])
      have HPC := Lib.hid (predsOf_any params (n : Int) (some ⟨qb, qo, none⟩) bc (nxs ⟨params, (n : Int), blocks⟩) (bn : Int) (by simp [okN, nxs]; omega) Wx (HU.out.2.1.later HSX.out.1.base))
      have hnx : (nxs ⟨params, (n : Int), blocks⟩).length = blocks.length := by simp [nxs]
      rw [hnx] at HPC
      change Hid (Calls _ _ _ _ fun e w' => RetInts Wx (predsC ⟨params, (n : Int), blocks⟩ bn) (predsC ⟨params, (n : Int), blocks⟩ bn).length e w') at HPC
      rw [← hL] at HPC
      have hfge : decide ((f : Int) ≥ 0) = true := decide_eq_true (by omega)
      have hpgt : decide ((phis.length : Int) > 0) = true := decide_eq_true (by omega)
      have m0 := cell_of_row _ _ 0 _ _ _ HKX.out.1.1
      have m1 := cell_of_row _ _ 1 _ _ _ HKX.out.1.1
      have m2 := cell_of_row _ _ 2 _ _ _ HKX.out.1.1
      simp only [List.getElem?_toArray, List.getElem?_cons_zero, List.getElem?_cons_succ] at m0 m1 m2
      obtain ⟨vs, hvs⟩ : ∃ vs, vs = phiVals phis pl regs := ⟨_, rfl⟩
      have HVS := Lib.hid hvs
      have HVL := Lib.hid (show vs.length = phis.length by rw [hvs]; simp [phiVals])
      have HALL := Lib.hid (show phiTo phis vs phis.length regs = phiAll phis pl regs by rw [hvs]; exact phiTo_all phis pl regs)
      clear hL hpl' hPV hat hnx hvs hfm
      go_wp2_with fail
      refine HPC.out.mono ?_
      rintro e w4 ⟨a2, c2, rfl, hown2, hb2⟩
      have HIX := Lib.hid (index_any a2 L.length c2 L (f : Int) w4 (ints_of_own hown2).toIntsRd (by omega))
      have HB4 := Lib.hid hb2
      clear hown2 hb2 hfge hpgt m0 m1 m2
      go_wp2_with fail
      refine HIX.out.mono ?_
      rintro e w5 ⟨rfl, rfl⟩
      rw [HIE.out]
      have x0 := cell_later HB4.out x0
      obtain ⟨ax, hax⟩ : ∃ b, b = w4.heap.size := ⟨_, rfl⟩
      have HA4 := Lib.hid (show Below w4.heap.size w4 (w4.alloc (.cells #[.int .i64 (pl : Int)] 3)) ∧ (w4.alloc (.cells #[.int .i64 (pl : Int)] 3)).cell? ⟨ax, 0, none⟩ = some (.int .i64 (pl : Int)) from ⟨(Below.refl _ _).alloc (Nat.le_refl _) _, by rw [hax]; exact cell_of_row _ _ 0 _ _ _ (heap_alloc_new w4 _)⟩)
      go_upto_region 10 with fail
      rw [← hax]
      clear hax
      generalize w4.alloc (.cells #[.int .i64 (pl : Int)] 3) = W10 at HA4 ⊢
      have HB10 := Lib.hid (HB4.out.trans (HA4.out.1.mono HB4.out.size))
      have x0 := cell_later HA4.out.1 x0
      have HMP := Lib.hid (mappedP_any 49 #[.pointer (some ⟨gx, 0, none⟩), .pointer (some ⟨ax, 0, none⟩)] (fun p => atI regs (p.args.getD pl 0)) pa phis.length pc phis W10 (HPH.out.later phiR_lasts (HSX.out.1.base.trans (HB10.out.mono HSX.out.1.base.size))) ⟨fun v W => by kernel_rfl, fun y hy cs W hb hyR => by
        obtain ⟨fa, fc, rfl, ⟨hm1, hm2⟩, hA⟩ := hyR
        have hpf := HPL.out y hy
        have hll : pl < y.args.length := by rw [hpf.2.1]; exact hpll
        have hr0 : y.args[pl]? = some (y.args[pl]'hll) := List.getElem?_eq_getElem hll
        have hrr := hpf.2.2 _ (List.getElem_mem hll)
        obtain ⟨r, hr⟩ : ∃ r : Nat, y.args[pl]'hll = (r : Int) := ⟨(y.args[pl]'hll).toNat, by omega⟩
        have hge : y.args.getD pl 0 = (r : Int) := by rw [List.getD_eq_getElem?_getD, hr0, hr]; rfl
        have hbW := HB10.out.trans (hb.mono HB10.out.size)
        have hg1 := cell_later hbW (cell_of_row _ _ 0 _ _ _ HKX.out.2.1.1)
        rw [hge]
        exact phiC_any W hg1 (cell_later hb HA4.out.2) hA (by rw [hpf.2.1]; omega) (hr ▸ hr0) (by omega) hnn ((HSX.out.2.1.later hbW).at (j := r) (by omega))⟩ hplen)
      go_wp2_with fail
      refine HMP.out.mono ?_
      rintro e w11 ⟨a3, c3, rfl, hown3, hb3⟩
      have x0 := cell_later hb3 x0
      have HB11 := Lib.hid (HB10.out.trans (hb3.mono HB10.out.size))
      have HLO := Lib.hid (show w11.ownsRow W10.heap.size 3 1 (.slice a3 phis.length c3) phis.length (vs.map (Value.int .i64)) from by
        have hvv := HVS.out
        unfold phiVals at hvv
        rw [hvv]
        exact hown3)
      have HGL := Lib.hid (show gb < Wx.heap.size ∧ Wx.heap.size ≤ W10.heap.size ∧ gb < gx from ⟨HSX.out.2.1.lt.2, HB10.out.size, HW2.out.2.2.2.2.2.2⟩)
      clear hown3 hb3 HMP HPC HIX
      go_wp2
      go_loopg [70] phis.length (fun FF i wq => ∃ kk : Nat, kk + FF = phis.length ∧ i = .int .i64 kk ∧ Hid (RgSt w0.heap.size gb n D7 wq (phiTo phis vs kk regs) ∧ Turned (fun k => k = gb) w11 wq))
      case atStart => exact ⟨0, by omega, rfl, Lib.hid ⟨HSX.out.2.1.later HB11.out, Turned.refl _ _⟩⟩
      case round =>
        obtain ⟨kk, hkk, rfl, HRT⟩ := hrel
        have HTX := Lib.hid (show Turned (fun k => k = gb) Wx wr from (turned_of_below HB11.out (fun k h1 h2 => by omega)).trans HRT.out.2)
        by_cases hlt : kk < phis.length
        · have hb0 : Below w0.heap.size w0 wr := HSX.out.1.base.trans (HTX.out.below HSX.out.1.base.size (fun k hk => by have := HSX.out.2.1.lt.1; omega))
          obtain ⟨fb, fo, ft, args, fa, fc, hfa, hp, p0, p1, -⟩ := phi_place (HPH.out.later phiR_lasts hb0) hlt
          cases hfa
          have hpf := (HPL.out _ (List.mem_of_getElem? hp)).1
          change 0 ≤ ft ∧ ft < (n : Int) at hpf
          obtain ⟨jt, rfl⟩ : ∃ i : Nat, ft = (i : Int) := ⟨ft.toNat, by omega⟩
          have hki : (kk : Int) < (phis.length : Int) := by omega
          have jl : (jt : Int) < (n : Int) := hpf.2
          have hba : Below wr.heap.size wr (wr.alloc (.cells #[.int .i64 (jt : Int), .slice fa args.length fc] 78)) := (Below.refl _ _).alloc (Nat.le_refl _) _
          have hf0 : (wr.alloc (.cells #[.int .i64 (jt : Int), .slice fa args.length fc] 78)).cell? ⟨wr.heap.size, 0, none⟩ = some (.int .i64 (jt : Int)) := cell_of_row _ _ 0 _ _ _ (heap_alloc_new wr _)
          have g0 := cell_later hba (cell_of_row _ _ 0 _ _ _ ((HTX.out.block gx (Array.getElem?_eq_some_iff.1 HKX.out.2.1.1).1 (by have := HGL.out; omega)).trans HKX.out.2.1.1))
          have hli : IntsRd wr a3 phis.length vs := ⟨HVL.out, rowAt_of_own (own_turned HLO.out HRT.out.2 (fun k hk => by have := (HLO.out.lt k hk).1; have := HGL.out; omega))⟩
          obtain ⟨lb2, lo2, v, hla2, hv, hcv⟩ := hli.place hlt
          cases hla2
          have hcv := cell_later hba hcv
          have rt := (HRT.out.1.later hba).at (j := jt) (by omega)
          have rf := (HRT.out.1.later hba).free jt
          have HST := Lib.hid (phiTo_succ regs hp hv)
          have HVB := Lib.hid (show Byt v by
            have h1 := List.mem_of_getElem? hv
            rw [HVS.out] at h1
            obtain ⟨p, -, rfl⟩ := List.mem_map.1 h1
            exact HX.out.1.rg.byts.at _)
          go_upto_region 14 with fail
          generalize (wr.alloc (.cells #[.int .i64 (jt : Int), .slice fa args.length fc] 78)) = Wp at hba hf0 g0 hcv rt rf ⊢
          have HE := Lib.hid (show RgSt w0.heap.size gb n D7 (Wp.drew.setCell ⟨gb, jt, none⟩ (.int .i64 v)) (phiTo phis vs (kk + 1) regs) ∧ Turned (fun k => k = gb) w11 (Wp.drew.setCell ⟨gb, jt, none⟩ (.int .i64 v)) from by
            have hd : Below wr.heap.size wr Wp.drew := hba.drew
            rw [HST.out]
            exact ⟨(HRT.out.1.later hd).put jt HVB.out, (HRT.out.2.trans (turned_of_below hd (fun k h1 h2 => by omega))).trans (turned_store Wp.drew gb jt (.int .i64 v))⟩)
          obtain ⟨pb, hpb⟩ : ∃ b, b = wr.heap.size := ⟨_, rfl⟩
          rw [← hpb] at hf0 ⊢
          clear hp hpf p0 p1 hli hv hba hb0 hpb
          go_still_tail 8, (by kernel_rfl)
          change wpList _ _ _ _ _ Wp.drew
          go_wp2
          go_roundg (phis.length - (kk + 1))
          case measure => omega
          case rel => exact ⟨kk + 1, by omega, by go_num, HE⟩
        · obtain rfl : kk = phis.length := by omega
          obtain ⟨regs2, hrg2⟩ : ∃ r, r = phiTo phis vs phis.length regs := ⟨_, rfl⟩
          have HC8 := Lib.hid (show MCSt w0 (some ⟨ub, uo, none⟩) us.length uc rb N gb n D7 Wx D7 sv1 tv7 wr regs2 (addT true s1 bn) from ⟨HSX.out.1.stay HTX.out (fun k hk => by subst hk; exact ⟨HSX.out.2.1.out, HSX.out.2.1.lt.1⟩), by rw [hrg2]; exact HRT.out.1, ⟨HTX.out.mono (fun k hk => .inr hk), fun _ _ h => h⟩, addT_good HX.out.1.good, (addT_fin _ _ _).trans HX.out.1.fin⟩)
          replace HPI := Lib.hid (HPI.out.trans (HALL.out.symm.trans hrg2.symm))
          have x1 := cell_of_row _ _ 1 _ _ _ (HC8.out.step.block HXB.out.1 HXB.out.2)
          simp only [List.getElem?_toArray, List.getElem?_cons_zero, List.getElem?_cons_succ] at x1
          clear hrg2 x0
          go_wp2
          obtain ⟨RI, hRI⟩ : ∃ RI, RI = insAll doD (codeRun doD predsC us d) ins regs2 (addT true s1 bn) := ⟨_, rfl⟩
          have HRI := Lib.hid hRI
          have hleft : (addT true s1 bn).left = s1.left := addT_left _ _ _
          have HRL := Lib.hid (show RI.2.left ≤ s1.left ∧ RI.2.trace.length = s1.trace.length + 1 from by
            rw [hRI, ← hleft]
            refine ⟨(grow_insAll (doF := doD) (grow_code us d) ins regs2 (addT true s1 bn)).left, ?_⟩
            rw [insAll_trace ins (fun y hy ho inp s => code_trace us HU.out.2.2.1.callsOk d y.num.toNat inp s (by
              have h1 := ((HBK.out.2.1.ins y hy).call ho)
              have := HTR.out.1
              omega)) regs2 (addT true s1 bn)]
            show (s1.trace ++ [bn]).length = _
            rw [List.length_append, List.length_singleton])
          clear hRI hleft
          go_loopg [87] ins.length (fun FF i wq => ∃ j : Nat, j + FF = ins.length ∧ i = .int .i64 j ∧ ∃ regs3 s3 D3 sv3 tv3, Hid (MCSt w0 (some ⟨ub, uo, none⟩) us.length uc rb N gb n D7 Wx D3 sv3 tv3 wq regs3 s3 ∧ insAll doD (codeRun doD predsC us d) (ins.drop j) regs3 s3 = RI))
          case atStart => exact ⟨0, by omega, rfl, _, _, _, _, _, Lib.hid ⟨HC8.out, HRI.out.symm⟩⟩
          case round =>
            obtain ⟨j, hj, rfl, regs3, s3, D3, sv3, tv3, HY⟩ := hrel
            clear HC8
            by_cases hlt : j < ins.length
            · obtain ⟨ib, io, op, tq2, args, num, aa, ac, hia, hy, i0, i1, i2, i3, hyR⟩ := ins_place HBK.out.2.2.1 hlt
              cases hia
              have hji : (j : Int) < (ins.length : Int) := by omega
              have HDR := Lib.hid (drop_of hy)
              have hyv := HBK.out.2.1.ins _ (List.mem_of_getElem? hy)
              have i0 := cell_later HY.out.1.st.base i0
              have i1 := cell_later HY.out.1.st.base i1
              have i2 := cell_later HY.out.1.st.base i2
              have i3 := cell_later HY.out.1.st.base i3
              have hba : Below wr.heap.size wr (wr.alloc (.cells #[.int .i64 op, .int .i64 tq2, .slice aa args.length ac, .int .i64 num] 83)) := (Below.refl _ _).alloc (Nat.le_refl _) _
              have hgrow := HY.out.1.step.block HKX.out.2.1.1 HKX.out.2.1.2
              have g0 := cell_later hba (cell_of_row _ _ 0 _ _ _ hgrow)
              cases hfin : s3.take.fin with
              | some en =>
                have HOV := Lib.hid (show Calls Try.prog 50 #[.pointer (some ⟨rb, 0, none⟩), .agg #[.int .i64 op, .int .i64 tq2, .slice aa args.length ac, .int .i64 num], .slice (some ⟨gb, 0, none⟩) n n] (wr.alloc (.cells #[.int .i64 op, .int .i64 tq2, .slice aa args.length ac, .int .i64 num] 83)) _ from insI_over (X := [.int .i64 op, .int .i64 tq2, .slice aa args.length ac, .int .i64 num]) hNN (HY.out.1.st.later hba) (HY.out.1.rg.later hba) HY.out.1.fin hfin)
                have HEN := Lib.hid (show R = (0, s3.take) by
                  have h1 := HY.out.2
                  rw [HDR.out, insAll_stop1 hfin] at h1
                  rw [← HX.out.2.2.2.2, HPI.out, block_over HBK.out.1 HRI.out.symm (by rw [← h1]; exact hfin), ← h1])
                have HFI := Lib.hid hfin
                have HBA := Lib.hid hba
                clear hfin hyv hyR hy hba hgrow
                go_wp2_with fail
                refine HOV.out.mono ?_
                rintro e w3 ⟨he, hS3, hT3⟩
                obtain rfl : e = endPanic en := he
                exact ⟨rfl, by rw [HEN.out, HFI.out]; rfl, HFIN.out D3 sv3 tv3 w3 0 s3.take hS3 (HY.out.1.step.trans ((Step.new HBA.out).trans hT3.plus)) HEN.out⟩
              | none =>
                have HFI := Lib.hid hfin
                have htl := RunS.take_lt hfin
                have hsm : s3.take.said.length + s3.take.left < 60000 := by rw [take_said]; have := HY.out.1.good.small; omega
                have HG := Lib.hid (And.intro HY.out.1.good.take (And.intro hsm hyv))
                have HCALL := Lib.hid (show Calls Try.prog 50 #[.pointer (some ⟨rb, 0, none⟩), .agg #[.int .i64 op, .int .i64 tq2, .slice aa args.length ac, .int .i64 num], .slice (some ⟨gb, 0, none⟩) n n] (wr.alloc (.cells #[.int .i64 op, .int .i64 tq2, .slice aa args.length ac, .int .i64 num] 83)) _ from insI_any (c := ⟨params, (n : Int), blocks⟩) HU.out.2.2.1 HU.out.2.2.2.1 hklt hyv _ hyR rfl hnn hNN (HY.out.1.st.later hba) (HY.out.1.rg.later hba) HY.out.1.good HY.out.1.fin hfin)
                have HGI := Lib.hid (good_ins (call := codeRun doD predsC us d) doD_ok (good_code doD_ok us HU.out.2.2.1.numOk d) ⟨op, tq2, args, num⟩ (HU.out.2.2.1.numOk _ (List.mem_of_getElem? HU.out.2.2.2.2.1) _ (List.mem_of_getElem? HBK.out.1) _ (List.mem_of_getElem? hy)) regs3 s3.take HY.out.1.rg.byts HG.out.1 HG.out.2.1)
                have HBA := Lib.hid hba
                clear hfin hyv hyR hy htl hsm hba hgrow
                obtain ⟨r, hr⟩ : ∃ r, r = insRun doD (codeRun doD predsC us d) ⟨op, tq2, args, num⟩ regs3 s3.take := ⟨_, rfl⟩
                rw [← hr] at HCALL HGI
                have HRR := Lib.hid hr
                clear hr
                cases hf4 : r.2.fin with
                | some en =>
                  rw [hf4] at HCALL
                  have HEN := Lib.hid (show R = (0, r.2) by
                    have h1 := HY.out.2
                    rw [HDR.out, insAll_stop2 HFI.out (by rw [← HRR.out]; exact hf4), ← HRR.out] at h1
                    rw [← HX.out.2.2.2.2, HPI.out, block_over HBK.out.1 HRI.out.symm (by rw [← h1]; exact hf4), ← h1])
                  have HF4 := Lib.hid hf4
                  clear hf4
                  go_wp2_with fail
                  refine HCALL.out.mono ?_
                  rintro e w4 ⟨he, D4, sv4, tv4, hS4, -, hT4⟩
                  obtain rfl : e = endPanic en := he
                  exact ⟨rfl, by rw [HEN.out, HF4.out]; rfl, HFIN.out D4 sv4 tv4 w4 0 r.2 hS4 (HY.out.1.step.trans ((Step.new HBA.out).trans hT4)) HEN.out⟩
                | none =>
                  rw [hf4] at HCALL
                  have HF4 := Lib.hid hf4
                  clear hf4
                  go_wp2_with fail
                  refine HCALL.out.mono ?_
                  rintro e w4 ⟨he, D4, sv4, tv4, hS4, hR4, hT4⟩
                  obtain rfl : e = .returned (.tuple #[]) := he
                  have HN := Lib.hid (show MCSt w0 (some ⟨ub, uo, none⟩) us.length uc rb N gb n D7 Wx D4 sv4 tv4 w4 r.1 r.2 ∧ insAll doD (codeRun doD predsC us d) (ins.drop (j + 1)) r.1 r.2 = RI from
                    ⟨⟨hS4, hR4 HF4.out, HY.out.1.step.trans ((Step.new HBA.out).trans hT4), HGI.out.2, HF4.out⟩, by
                      have h1 := HY.out.2
                      rw [HDR.out, insAll_go HFI.out (by rw [← HRR.out]; exact HF4.out), ← HRR.out] at h1
                      exact h1⟩)
                  clear hS4 hR4 hT4 i0 i1 i2 i3 g0
                  go_wp2
                  go_roundg (ins.length - (j + 1))
                  case measure => omega
                  case rel => exact ⟨j + 1, by omega, by go_num, r.1, r.2, D4, sv4, tv4, HN⟩
            · obtain rfl : j = ins.length := by omega
              have HEQ := Lib.hid (show RI = (regs3, s3) by
                have h1 := HY.out.2
                rw [List.drop_length] at h1
                exact h1.symm)
              have HTK := Lib.hid (tickI_any HY.out.1.st hNN HY.out.1.fin)
              cases hfin : s3.take.fin with
              | some en =>
                rw [hfin] at HTK
                have HFI := Lib.hid hfin
                have HEN := Lib.hid (show R = (0, s3.take) by
                  rw [← HX.out.2.2.2.2, HPI.out, block_fuel HBK.out.1 (HRI.out.symm.trans HEQ.out) HY.out.1.fin hfin])
                clear hfin
                go_wp2_with fail
                refine HTK.out.mono ?_
                rintro e w3 ⟨he, hS3, hT3⟩
                obtain rfl : e = endPanic en := he
                exact ⟨rfl, by rw [HEN.out, HFI.out]; rfl, HFIN.out D3 sv3 tv3 w3 0 s3.take hS3 (HY.out.1.step.trans hT3.plus) HEN.out⟩
              | none =>
                rw [hfin] at HTK
                have HFI := Lib.hid hfin
                have HG := Lib.hid (And.intro HY.out.1.good.take (RunS.take_lt hfin))
                clear hfin
                go_wp2_with fail
                refine HTK.out.mono ?_
                rintro e w3 ⟨he, hS3, hT3⟩
                obtain rfl : e = .returned (.tuple #[]) := he
                have hx3 := HY.out.1.step.trans hT3.plus
                have HC3 := Lib.hid (show MCSt w0 (some ⟨ub, uo, none⟩) us.length uc rb N gb n D w2 D3 sv3 tv3 w3 regs3 s3.take ∧ Step (fun k => D7 k ∨ k = gb) Wx (fun k => D3 k ∨ k = gb) w3 from
                  ⟨⟨hS3, HY.out.1.rg.stay hT3.turned HY.out.1.rg.out (hT3.out HY.out.1.rg.lt.2 HY.out.1.rg.out), HSX.out.2.2.trans hx3, HG.out.1, HFI.out⟩, hx3⟩)
                have hxrow := hx3.block HXB.out.1 HXB.out.2
                have hgrow := hx3.block HKX.out.2.1.1 HKX.out.2.1.2
                have x2 := cell_of_row _ _ 2 _ _ _ hxrow
                have x3 := cell_of_row _ _ 3 _ _ _ hxrow
                have x4 := cell_of_row _ _ 4 _ _ _ hxrow
                have g0 := cell_of_row _ _ 0 _ _ _ hgrow
                simp only [List.getElem?_toArray, List.getElem?_cons_zero, List.getElem?_cons_succ] at x2 x3 x4 g0
                clear hxrow hgrow hx3 hS3 hT3
                rcases HBK.out.2.1.jump with ⟨hj1, hnl⟩ | ⟨hj2, hnl⟩ | ⟨hj3, hnl⟩
                · obtain rfl : jump = 1 := hj1
                  change nx.length = 1 at hnl
                  rw [hnl] at x4
                  obtain ⟨nb, no, y0, hna, hy0, n0⟩ := HBK.out.2.2.2.place (i := 0) (by omega)
                  cases hna
                  rw [Nat.add_zero] at n0
                  have n0 := cell_later HC3.out.1.st.base n0
                  have HNX := Lib.hid (show ∀ nn : Nat, y0 = (nn : Int) → nextOf ⟨phis, ins, 1, jon, nx⟩ regs3 = nn from fun nn e => by
                    unfold nextOf
                    rw [if_pos (.inl rfl)]
                    show (nx.getD 0 0).toNat = nn
                    rw [List.getD_eq_getElem?_getD, hy0, e]; rfl)
                  have HJ := Lib.hid (show (1 : Int) ≠ 3 by omega)
                  clear hnl
                  have hyr := HBK.out.2.1.nx y0 (List.mem_of_getElem? hy0)
                  change 1 ≤ y0 ∧ y0 < (blocks.length : Int) at hyr
                  obtain ⟨nn, rfl⟩ : ∃ i : Nat, y0 = (i : Int) := ⟨y0.toNat, by omega⟩
                  have hnb : nn < blocks.length := by omega
                  obtain ⟨y, hyb⟩ : ∃ y, blocks[nn]? = some y := ⟨_, List.getElem?_eq_getElem hnb⟩
                  have HN := Lib.hid (show MCSt w0 (some ⟨ub, uo, none⟩) us.length uc rb N gb n D w2 D3 sv3 tv3 w3 regs3 s3.take ∧ s3.take.left < F ∧ s3.take.trace.length + s3.take.left ≤ 60000 ∧ ((bn : Int) = -1 ∨ ∃ f : Nat, (bn : Int) = (f : Int) ∧ (f : Int) ∈ predsC ⟨params, (n : Int), blocks⟩ nn) ∧ blockRun doD (codeRun doD predsC us d) predsC ⟨params, (n : Int), blocks⟩ true F nn (phiIn ⟨params, (n : Int), blocks⟩ nn (bn : Int) regs3) s3.take = R from by
                    have h1 := HRL.out
                    rw [HEQ.out] at h1
                    have h2 := HX.out.2.1
                    have h3 := HG.out.2
                    dsimp only at h1
                    refine ⟨HC3.out.1, by omega, by rw [take_trace]; have := HX.out.2.2.1; omega, .inr ⟨bn, rfl, preds_mem HBK.out.1 (List.mem_of_getElem? hy0)⟩, ?_⟩
                    rw [phiIn_from hyb, ← HX.out.2.2.2.2, HPI.out, block_next HBK.out.1 (HRI.out.symm.trans HEQ.out) HY.out.1.fin HFI.out HJ.out (HNX.out nn rfl) hyb])
                  clear hy0 hyr hyb
                  go_wp2
                  go_roundg F
                  case measure => omega
                  case rel => exact ⟨nn, (bn : Int), by go_num, by go_num, hnb, _, _, _, _, _, HN⟩
                · obtain rfl : jump = 2 := hj2
                  change nx.length = 2 at hnl
                  rw [hnl] at x4
                  have hjon := HBK.out.2.1.jon rfl
                  change 0 ≤ jon ∧ jon < (n : Int) at hjon
                  obtain ⟨jj, rfl⟩ : ∃ i : Nat, jon = (i : Int) := ⟨jon.toNat, by omega⟩
                  have hjn : (jj : Int) < (n : Int) := hjon.2
                  have rj := HC3.out.1.rg.at (j := jj) (by omega)
                  have HJ := Lib.hid (show (2 : Int) ≠ 3 by omega)
                  by_cases hv : atI regs3 (jj : Int) = 0
                  · obtain ⟨nb, no, y0, hna, hy0, n0⟩ := HBK.out.2.2.2.place (i := 1) (by omega)
                    cases hna
                    have n0 := cell_later HC3.out.1.st.base n0
                    rw [hv] at rj
                    have HNX := Lib.hid (show ∀ nn : Nat, y0 = (nn : Int) → nextOf ⟨phis, ins, 2, (jj : Int), nx⟩ regs3 = nn from fun nn e => by
                      unfold nextOf
                      rw [if_neg (by rintro (h | h); · cases h
                                     · exact h hv)]
                      show (nx.getD 1 0).toNat = nn
                      rw [List.getD_eq_getElem?_getD, hy0, e]; rfl)
                    clear hnl hv hjon
                    have hyr := HBK.out.2.1.nx y0 (List.mem_of_getElem? hy0)
                    change 1 ≤ y0 ∧ y0 < (blocks.length : Int) at hyr
                    obtain ⟨nn, rfl⟩ : ∃ i : Nat, y0 = (i : Int) := ⟨y0.toNat, by omega⟩
                    have hnb : nn < blocks.length := by omega
                    obtain ⟨y, hyb⟩ : ∃ y, blocks[nn]? = some y := ⟨_, List.getElem?_eq_getElem hnb⟩
                    have HN := Lib.hid (show MCSt w0 (some ⟨ub, uo, none⟩) us.length uc rb N gb n D w2 D3 sv3 tv3 w3 regs3 s3.take ∧ s3.take.left < F ∧ s3.take.trace.length + s3.take.left ≤ 60000 ∧ ((bn : Int) = -1 ∨ ∃ f : Nat, (bn : Int) = (f : Int) ∧ (f : Int) ∈ predsC ⟨params, (n : Int), blocks⟩ nn) ∧ blockRun doD (codeRun doD predsC us d) predsC ⟨params, (n : Int), blocks⟩ true F nn (phiIn ⟨params, (n : Int), blocks⟩ nn (bn : Int) regs3) s3.take = R from by
                      have h1 := HRL.out
                      rw [HEQ.out] at h1
                      have h2 := HX.out.2.1
                      have h3 := HG.out.2
                      dsimp only at h1
                      refine ⟨HC3.out.1, by omega, by rw [take_trace]; have := HX.out.2.2.1; omega, .inr ⟨bn, rfl, preds_mem HBK.out.1 (List.mem_of_getElem? hy0)⟩, ?_⟩
                      rw [phiIn_from hyb, ← HX.out.2.2.2.2, HPI.out, block_next HBK.out.1 (HRI.out.symm.trans HEQ.out) HY.out.1.fin HFI.out HJ.out (HNX.out nn rfl) hyb])
                    clear hy0 hyr hyb
                    go_wp2
                    go_roundg F
                    case measure => omega
                    case rel => exact ⟨nn, (bn : Int), by go_num, by go_num, hnb, _, _, _, _, _, HN⟩
                  · obtain ⟨nb, no, y0, hna, hy0, n0⟩ := HBK.out.2.2.2.place (i := 0) (by omega)
                    cases hna
                    rw [Nat.add_zero] at n0
                    have n0 := cell_later HC3.out.1.st.base n0
                    have HNX := Lib.hid (show ∀ nn : Nat, y0 = (nn : Int) → nextOf ⟨phis, ins, 2, (jj : Int), nx⟩ regs3 = nn from fun nn e => by
                      unfold nextOf
                      rw [if_pos (.inr hv)]
                      show (nx.getD 0 0).toNat = nn
                      rw [List.getD_eq_getElem?_getD, hy0, e]; rfl)
                    have hvn : (atI regs3 (jj : Int) == 0) = false := by rw [beq_eq_false_iff_ne]; exact hv
                    generalize atI regs3 (jj : Int) = vv at rj hvn
                    clear hnl hv hjon
                    have hyr := HBK.out.2.1.nx y0 (List.mem_of_getElem? hy0)
                    change 1 ≤ y0 ∧ y0 < (blocks.length : Int) at hyr
                    obtain ⟨nn, rfl⟩ : ∃ i : Nat, y0 = (i : Int) := ⟨y0.toNat, by omega⟩
                    have hnb : nn < blocks.length := by omega
                    obtain ⟨y, hyb⟩ : ∃ y, blocks[nn]? = some y := ⟨_, List.getElem?_eq_getElem hnb⟩
                    have HN := Lib.hid (show MCSt w0 (some ⟨ub, uo, none⟩) us.length uc rb N gb n D w2 D3 sv3 tv3 w3 regs3 s3.take ∧ s3.take.left < F ∧ s3.take.trace.length + s3.take.left ≤ 60000 ∧ ((bn : Int) = -1 ∨ ∃ f : Nat, (bn : Int) = (f : Int) ∧ (f : Int) ∈ predsC ⟨params, (n : Int), blocks⟩ nn) ∧ blockRun doD (codeRun doD predsC us d) predsC ⟨params, (n : Int), blocks⟩ true F nn (phiIn ⟨params, (n : Int), blocks⟩ nn (bn : Int) regs3) s3.take = R from by
                      have h1 := HRL.out
                      rw [HEQ.out] at h1
                      have h2 := HX.out.2.1
                      have h3 := HG.out.2
                      dsimp only at h1
                      refine ⟨HC3.out.1, by omega, by rw [take_trace]; have := HX.out.2.2.1; omega, .inr ⟨bn, rfl, preds_mem HBK.out.1 (List.mem_of_getElem? hy0)⟩, ?_⟩
                      rw [phiIn_from hyb, ← HX.out.2.2.2.2, HPI.out, block_next HBK.out.1 (HRI.out.symm.trans HEQ.out) HY.out.1.fin HFI.out HJ.out (HNX.out nn rfl) hyb])
                    clear hy0 hyr hyb
                    go_wp2
                    go_roundg F
                    case measure => omega
                    case rel => exact ⟨nn, (bn : Int), by go_num, by go_num, hnb, _, _, _, _, _, HN⟩
                · obtain rfl : jump = 3 := hj3
                  have hjon := HBK.out.2.1.jon rfl
                  change 0 ≤ jon ∧ jon < (n : Int) at hjon
                  obtain ⟨jj, rfl⟩ : ∃ i : Nat, jon = (i : Int) := ⟨jon.toNat, by omega⟩
                  have hjn : (jj : Int) < (n : Int) := hjon.2
                  have rj := HC3.out.1.rg.at (j := jj) (by omega)
                  have HEN := Lib.hid (show R = (atI regs3 (jj : Int), s3.take) by
                    rw [← HX.out.2.2.2.2, HPI.out, block_back HBK.out.1 (HRI.out.symm.trans HEQ.out) HY.out.1.fin HFI.out rfl])
                  have HE := Lib.hid (HFIN.out D3 sv3 tv3 w3 _ s3.take HC3.out.1.st HC3.out.2 HEN.out)
                  generalize atI regs3 (jj : Int) = v at rj HE HEN
                  clear hnl hjon
                  go_wp2
                  go_ret
                  exact ⟨by rw [HEN.out, HFI.out]; rfl, HE.out⟩
set_option maxRecDepth 100000 in
set_option maxHeartbeats 8000000 in
theorem codeI_sub {c : CodeD} {inp : List Int} {ia : Option Addr} {ic : Nat} (hV : UnitV us) (hsz : szS szCodeD us ≤ 1048576) (hU : SliceRd 3 CodeR w0 ua us.length us) (hC : MCodeC w0 us ua uc rb N d k) (hk : us[k]? = some c) (hmain : k + 1 < us.length) (hNN : N ≤ 60000)
    (hinp : (inp.length : Int) = c.params) (hin : IntsRd w ia inp.length inp) (hby : Byts inp) (h : MSt w0 ua us.length uc rb N D sv tv w s) (hf : s.fin = none) (hs : Good s) :
    Calls Try.prog 32 #[.pointer (some ⟨rb, 0, none⟩), .int .i64 (k : Int), .slice ia inp.length ic, .bool false] w fun e w' => e = outE (codeRun doD predsC us (d + 1) k inp s).2.fin (.int .i64 (codeRun doD predsC us (d + 1) k inp s).1) ∧
      ∃ D' sv' tv', MSt w0 ua us.length uc rb N D' sv' tv' w' (codeRun doD predsC us (d + 1) k inp s).2 ∧ Step D w D' w' := by
  have hmf : ∀ (fn : Fn) (first cap : Array Value) (w : World), (Instr.makeFunc fn first cap).run Try.prog w = .ok (.func fn first cap) w := fun _ _ _ _ => rfl
  have hklt := (List.getElem?_eq_some_iff.1 hk).1
  obtain ⟨ub, uo, params, rgs, blocks, ba, bc, hua, hk2, c0, c1, c2, hCR⟩ := code_place hU hklt
  subst hua
  rw [hk] at hk2
  cases hk2
  have hG := gr_of_code hCR (szS_get hsz hk).1
  obtain ⟨ba2, bc2, hcs, ⟨hbm, hbn⟩, hB⟩ := hCR
  simp only [List.cons.injEq, Value.slice.injEq, and_true, true_and] at hcs
  obtain ⟨rfl, rfl⟩ := hcs
  change SliceRd 5 BlockR w0 ba blocks.length blocks at hB
  obtain ⟨ba3, bc3, hcs, hG⟩ := hG
  simp only [List.cons.injEq, Value.slice.injEq, and_true, true_and] at hcs
  obtain ⟨rfl, -⟩ := hcs
  have hcv := hV.code k _ hk
  have hcr := hcv.regs
  have hcp := hcv.params
  have hcb := hcv.blocks
  simp only at hcr hcp hcb hinp
  obtain ⟨n, rfl⟩ : ∃ n : Nat, rgs = (n : Int) := ⟨rgs.toNat, by omega⟩
  have hcz : szS szBlockD blocks ≤ 1048576 := (szS_get hsz hk).1
  have hus := hV.len
  obtain ⟨R, hR⟩ : ∃ R, R = codeRun doD predsC us (d + 1) k inp s := ⟨_, rfl⟩
  rw [← hR]
  have hRB : blockRun doD (codeRun doD predsC us d) predsC ⟨params, (n : Int), blocks⟩ false (s.left + 1) 0 (inp ++ List.replicate (n - inp.length) 0) s = R := by
    rw [hR]
    conv => rhs; unfold codeRun
    dsimp only
    rw [List.getD_eq_getElem?_getD, hk, Option.getD_some, show (k + 1 == us.length) = false by simp; omega]
    rfl
  have hba : Below w.heap.size w (w.alloc (.cells #[.int .i64 params, .int .i64 (n : Int), .slice ba blocks.length bc] 37)) := (Below.refl _ _).alloc (Nat.le_refl _) _
  have hrow := heap_alloc_new w (.cells #[.int .i64 params, .int .i64 (n : Int), .slice ba blocks.length bc] 37)
  have hS1 := h.later hba
  have hk0 := h.cell 0
  simp only [mList, List.getElem?_cons_zero] at hk0
  have d0 := cell_later h.base c0
  have d1 := cell_later h.base c1
  have d2 := cell_later h.base c2
  have hkl : (k : Int) < (us.length : Int) := by omega
  have hnn : n ≤ 300 := by omega
  have hil : inp.length ≤ n := by omega
  have HU := Lib.hid (And.intro hB (And.intro hG (And.intro hV (And.intro hC (And.intro hk hcz)))))
  have HIN := Lib.hid (hin.later hba)
  have HBY := Lib.hid hby
  have HH := Lib.hid (And.intro h (And.intro hf hs))
  have HRB := Lib.hid hRB
  have HR := Lib.hid hR
  have HTR := Lib.hid hmain
  generalize hW : (w.alloc (.cells #[.int .i64 params, .int .i64 (n : Int), .slice ba blocks.length bc] 37)) = W1 at hba hrow hS1 HIN
  have HW := Lib.hid hW
  have hW1 : W1.heap.size = w.heap.size + 1 := by rw [← hW, World.size_alloc]
  have HS1 := Lib.hid (And.intro hba (And.intro hS1 (And.intro hrow hW1)))
  clear hW1
  obtain ⟨i0, hi, hz0, hz1, hz2⟩ := info_parts info_int
  have hlo1 : w0.heap.size ≤ W1.heap.size := hS1.base.size
  obtain ⟨cs0, hcs0⟩ : ∃ X, X = inp.map (Value.int .i64) := ⟨_, rfl⟩
  have HCS := Lib.hid hcs0
  have hcsl : cs0.length = inp.length := by rw [hcs0, List.length_map]
  clear hR hRB h hf hs hin hby hU hC hk hV hsz hB hG hcv hbm hbn hW hS1 c0 c1 c2 hcs0 hcz hinp hba hmain
  obtain ⟨kb, hkb⟩ : ∃ b, b = w.heap.size := ⟨_, rfl⟩
  rw [← hkb] at hrow
  have HKB := Lib.hid hkb
  have m1 := cell_of_row _ _ 1 _ _ _ hrow
  simp only [List.getElem?_toArray, List.getElem?_cons_zero, List.getElem?_cons_succ] at m1
  clear hkb hrow
  go_enter Try.func32, Try.ntmps32
  go_upto_region 2 with fail
  rw [HW.out, ← HKB.out]
  clear hk0 d0 d1 d2
  go_wp2_with (first
    | (at_make; refine wpList_make_full _ rfl _ _ 26 rfl w0.heap.size 3 i0 (.int .i64 0) 1 und_ints hi hz0 hz1 _ _ _ _ n rfl rfl rfl rfl (by rw [hz2]; omega) (by unfold maxLen; omega) hlo1 ?_; intro w1 hown hg; (rw [Nat.mul_one, show (Value.int .i64 0).cells = #[Value.int .i64 0] from rfl, toList_madeCells_one] at hown); (have hrw0 := own_whole hown); (have hbx : Below w1.heap.size w1 (w1.alloc (.cells #[.slice (some ⟨W1.heap.size, 0, none⟩) n n] 26)) := (Below.refl _ _).alloc (Nat.le_refl _) _); (have hbe : Below W1.heap.size W1 (w1.alloc (.cells #[.slice (some ⟨W1.heap.size, 0, none⟩) n n] 26)) := ((Below.refl _ _).grown hg (Nat.le_refl _) (by simp)).trans (hbx.mono hg.size)); (have hrw := (hbx.block _ (Array.getElem?_eq_some_iff.1 hrw0).1).trans hrw0); (have hin1 := HIN.out.later hbe); (have HB1 := Lib.hid (And.intro hbe (And.intro (heap_alloc_new w1 (.cells #[.slice (some ⟨W1.heap.size, 0, none⟩) n n] 26)) (Array.getElem?_eq_some_iff.1 hrw0).1))); clear hown hg hbe m1 hrw0 hbx)
    | (with_reducible refine wpList_copy_row rfl (.tmp 31) (.tmp 32) 26 26 rfl 3 und_ints (by kernel_rfl) _ _ _ _ _ _ rfl rfl W1.heap.size 0 _ _ hrw cs0 (by rw [hcsl]; exact (Nat.min_eq_left hil).symm) (fun h0 => ⟨rfl, by rw [HCS.out] at h0 ⊢; exact row_src hin1 h0⟩) (by rw [List.length_replicate, hcsl]; omega) (by rw [HCS.out]; exact oneCell_ints _) ?_; intro w2 HG2; clear hrw hin1))
  clear hi hz0 hz1 hz2
  obtain ⟨gb, hgb⟩ : ∃ b, b = W1.heap.size := ⟨_, rfl⟩
  rw [← hgb] at HG2 HB1 ⊢
  obtain ⟨gx, hgx⟩ : ∃ b, b = w1.heap.size := ⟨_, rfl⟩
  rw [← hgx] at HB1 ⊢
  have HW2 := Lib.hid (show Below w.heap.size w w2 ∧ w.heap.size ≤ gb ∧ kb < gb ∧ gb < w2.heap.size ∧ w2.heap[kb]? = some (.cells #[.int .i64 params, .int .i64 (n : Int), .slice ba blocks.length bc] 37 (0, 0)) ∧ w2.heap[gx]? = some (.cells #[.slice (some ⟨gb, 0, none⟩) n n] 26 (0, 0)) ∧ gb < gx from by
    have h1 := HS1.out
    have hs1 : W1.heap.size = w.heap.size + 1 := h1.2.2.2
    have h3 := HKB.out
    have ht := HG2.out.2
    have hgl : gb < gx := HB1.out.2.2
    have hb2 : Below gb W1 w2 := (HB1.out.1.mono (by rw [hgb]; exact Nat.le_refl _)).trans (ht.below (B := gb) (by have := (Array.getElem?_eq_some_iff.1 HB1.out.2.1).1; omega) (fun k hk => by omega))
    refine ⟨h1.1.trans (hb2.mono (by omega)), by omega, by omega, (Array.getElem?_eq_some_iff.1 HG2.out.1).1, ?_, ?_, hgl⟩
    · rw [hb2.block kb (by omega), h3]
      exact h1.2.2.1
    · exact (ht.block gx (Array.getElem?_eq_some_iff.1 HB1.out.2.1).1 (by omega)).trans HB1.out.2.1)
  have HC0 := Lib.hid (show MCSt w0 (some ⟨ub, uo, none⟩) us.length uc rb N gb n D w2 D sv tv w2 (inp ++ List.replicate (n - inp.length) 0) s from by
    have h1 := HS1.out
    have hs1 : W1.heap.size = w.heap.size + 1 := h1.2.2.2
    have h3 := HG2.out.1
    rw [HCS.out, regs_start hil] at h3
    have hD : ¬ D gb := fun hd => by have := HH.out.1.hi _ hd; omega
    have hbl : Below W1.heap.size W1 (w1.alloc (.cells #[.slice (some ⟨gb, 0, none⟩) n n] 26)) := by rw [← hgb]; exact HB1.out.1
    exact ⟨(h1.2.1.later hbl).stay HG2.out.2 (fun k hk => by subst hk; exact ⟨hD, by rw [hgb]; exact hlo1⟩), ⟨own_of_whole h3 (by rw [hgb]; exact hlo1) (by simp; omega) (by unfold maxLen; omega), hD, fun v hv => by
      rcases List.mem_append.1 hv with h | h
      · exact HBY.out v h
      · rw [(List.mem_replicate.1 h).2]; exact byt_zero⟩, Step.refl _ _, HH.out.2.2, HH.out.2.1⟩)
  clear HG2 HB1 HIN HBY HS1 HCS hcsl hlo1 hgb hgx cs0
  go_loopg [11, 12] (s.left + 1) (fun F i f wr => ∃ (bn : Nat) (fr : Int), i = .int .i64 bn ∧ f = .int .i64 fr ∧ bn < blocks.length ∧ ∃ regs s' D' sv' tv', Hid (MCSt w0 (some ⟨ub, uo, none⟩) us.length uc rb N gb n D w2 D' sv' tv' wr regs s' ∧ s'.left < F ∧ (fr = -1 ∨ ∃ f : Nat, fr = (f : Int) ∧ (f : Int) ∈ predsC ⟨params, (n : Int), blocks⟩ bn) ∧ blockRun doD (codeRun doD predsC us d) predsC ⟨params, (n : Int), blocks⟩ false F bn (phiIn ⟨params, (n : Int), blocks⟩ bn fr regs) s' = R))
  case atStart => exact ⟨0, -1, rfl, rfl, by omega, _, _, _, _, _, Lib.hid ⟨HC0.out, Nat.lt_succ_self _, .inl rfl, HRB.out⟩⟩
  case round =>
    obtain ⟨bn, fr, rfl, rfl, hbn, regs, s1, D1, sv1, tv1, HX⟩ := hrel
    clear HC0 HRB
    obtain ⟨F, rfl⟩ : ∃ F, gk = F + 1 := ⟨gk - 1, by have := HX.out.2.1; omega⟩
    obtain ⟨qb, qo, phis, ins, jump, jon, nx, pa, pc, ia, ic, na, nc, hqa, hx, c0, c1, c2, c3, c4, hBR⟩ := block_place HU.out.1 (i := bn) hbn
    subst hqa
    obtain ⟨pa', pc', ia', ic', na', nc', hcs, ⟨-, hP⟩, ⟨-, hI⟩, ⟨-, hN⟩⟩ := hBR
    simp only [List.cons.injEq, Value.slice.injEq, and_true, true_and] at hcs
    obtain ⟨⟨rfl, rfl⟩, ⟨rfl, rfl⟩, ⟨rfl, rfl⟩⟩ := hcs
    change SliceRd 2 PhiR w0 pa phis.length phis at hP
    change SliceRd 4 InsR w0 ia ins.length ins at hI
    change IntsRd w0 na nx.length nx at hN
    have hbi : (bn : Int) < (blocks.length : Int) := by omega
    have hblk := (HU.out.2.2.1.code k _ HU.out.2.2.2.2.1).blk bn _ hx
    have hzz := szBlock_parts (szS_get HU.out.2.2.2.2.2 hx).1
    have hilen : ins.length ≤ 1048576 := Nat.le_trans (szS_len szInsD ins) hzz.2.1
    have hplen : phis.length ≤ 1048576 := Nat.le_trans (szS_len szPhiD phis) hzz.1
    have HBK := Lib.hid (And.intro hx (And.intro hblk (And.intro hI hN)))
    have HPH := Lib.hid hP
    have HCC := Lib.hid (And.intro c0 (And.intro c1 (And.intro c2 (And.intro c3 c4))))
    clear hx hblk hzz hI hN hP c0 c1 c2 c3 c4
    go_upto_region 7 with fail
    obtain ⟨D7, tv7, HC7⟩ : ∃ D7 tv7, Hid (MSt w0 (some ⟨ub, uo, none⟩) us.length uc rb N D7 sv1 tv7 wr (addT false s1 bn) ∧ RgSt w0.heap.size gb n D7 wr regs ∧ Step (fun k => D k ∨ k = gb) w2 (fun k => D7 k ∨ k = gb) wr) := ⟨D1, tv1, Lib.hid ⟨HX.out.1.st, HX.out.1.rg, HX.out.1.step⟩⟩
    obtain ⟨W7, hW7⟩ : ∃ W, W = wr := ⟨_, rfl⟩
    rw [← hW7] at HC7 ⊢
    clear hW7

    have hbs := HC7.out.1.base
    have e0 := cell_later hbs HCC.out.1
    have e1 := cell_later hbs HCC.out.2.1
    have e2 := cell_later hbs HCC.out.2.2.1
    have e3 := cell_later hbs HCC.out.2.2.2.1
    have e4 := cell_later hbs HCC.out.2.2.2.2
    have HNK := Lib.hid (show ¬ (D kb ∨ kb = gb) ∧ ¬ (D gx ∨ gx = gb) from ⟨fun hd => hd.elim (fun h2 => by have := HH.out.1.hi _ h2; have := HKB.out; omega) (fun e => by have := HW2.out; omega), fun hd => hd.elim (fun h2 => by have := HH.out.1.hi _ h2; have := HW2.out; omega) (fun e => by have := HW2.out; omega)⟩)
    have hkrow := HC7.out.2.2.block HW2.out.2.2.2.2.1 HNK.out.1
    have m2 := cell_of_row _ _ 2 _ _ _ hkrow
    simp only [List.getElem?_toArray, List.getElem?_cons_zero, List.getElem?_cons_succ] at m2
    have hba : Below W7.heap.size W7 (W7.alloc (.cells #[.slice pa phis.length pc, .slice ia ins.length ic, .int .i64 jump, .int .i64 jon, .slice na nx.length nc] 41)) := (Below.refl _ _).alloc (Nat.le_refl _) _
    have hrow := heap_alloc_new W7 (.cells #[.slice pa phis.length pc, .slice ia ins.length ic, .int .i64 jump, .int .i64 jon, .slice na nx.length nc] 41)
    clear hbs hkrow
    generalize hWx : (W7.alloc (.cells #[.slice pa phis.length pc, .slice ia ins.length ic, .int .i64 jump, .int .i64 jon, .slice na nx.length nc] 41)) = Wx at hba hrow
    have HWX := Lib.hid hWx
    have HBX := Lib.hid (And.intro hba hrow)
    clear hWx hba hrow
    go_upto_region 8 with fail
    rw [HWX.out]
    obtain ⟨xb, hxb⟩ : ∃ b, b = W7.heap.size := ⟨_, rfl⟩
    rw [← hxb]
    clear m2 e0 e1 e2 e3 e4
    have HSX := Lib.hid (show MSt w0 (some ⟨ub, uo, none⟩) us.length uc rb N D7 sv1 tv7 Wx (addT false s1 bn) ∧ RgSt w0.heap.size gb n D7 Wx regs ∧ Step (fun k => D k ∨ k = gb) w2 (fun k => D7 k ∨ k = gb) Wx from
      ⟨HC7.out.1.later HBX.out.1, HC7.out.2.1.later HBX.out.1, HC7.out.2.2.trans (Step.new HBX.out.1)⟩)
    have HXB := Lib.hid (show Wx.heap[xb]? = some (.cells #[.slice pa phis.length pc, .slice ia ins.length ic, .int .i64 jump, .int .i64 jon, .slice na nx.length nc] 41 (0, 0)) ∧ ¬ (D7 xb ∨ xb = gb) from
      ⟨by rw [hxb]; exact HBX.out.2, fun hd => hd.elim (fun h2 => by have := HC7.out.1.hi _ h2; omega) (fun e => by have := HC7.out.2.1.lt.2; omega)⟩)
    have HKX := Lib.hid (show (Wx.heap[kb]? = some (.cells #[.int .i64 params, .int .i64 (n : Int), .slice (some ⟨qb, qo, none⟩) blocks.length bc] 37 (0, 0)) ∧ ¬ (D7 kb ∨ kb = gb)) ∧ (Wx.heap[gx]? = some (.cells #[.slice (some ⟨gb, 0, none⟩) n n] 26 (0, 0)) ∧ ¬ (D7 gx ∨ gx = gb)) ∧ gb < xb from
      ⟨⟨HSX.out.2.2.block HW2.out.2.2.2.2.1 HNK.out.1, HSX.out.2.2.out (Array.getElem?_eq_some_iff.1 HW2.out.2.2.2.2.1).1 HNK.out.1⟩, ⟨HSX.out.2.2.block HW2.out.2.2.2.2.2.1 HNK.out.2, HSX.out.2.2.out (Array.getElem?_eq_some_iff.1 HW2.out.2.2.2.2.2.1).1 HNK.out.2⟩, by have := HC7.out.2.1.lt.2; omega⟩)
    have HFIN := Lib.hid (fun (D2 : Nat → Prop) (sv2 tv2 : Value) (wq : World) (v : Int) (s2 : RunS) (hS : MSt w0 (some ⟨ub, uo, none⟩) us.length uc rb N D2 sv2 tv2 wq s2) (hT : Step (fun k => D7 k ∨ k = gb) Wx (fun k => D2 k ∨ k = gb) wq) (hRv : R = (v, s2)) =>
      show ∃ D' sv' tv', MSt w0 (some ⟨ub, uo, none⟩) us.length uc rb N D' sv' tv' wq R.2 ∧ Step D w D' wq from by
        rw [hRv]
        exact ⟨D2, sv2, tv2, hS, Step.base HW2.out.1 (HSX.out.2.2.trans hT) HW2.out.2.1⟩)
    have x0 := cell_of_row _ _ 0 _ _ _ HXB.out.1
    have x1 := cell_of_row _ _ 1 _ _ _ HXB.out.1
    simp only [List.getElem?_toArray, List.getElem?_cons_zero, List.getElem?_cons_succ] at x0 x1
    clear hxb
    have hcase : fr = -1 ∨ (∃ f : Nat, fr = (f : Int) ∧ phis.length = 0) ∨ (∃ f : Nat, fr = (f : Int) ∧ 0 < phis.length ∧ (f : Int) ∈ predsC ⟨params, (n : Int), blocks⟩ bn) := by
      rcases HX.out.2.2.1 with h | ⟨f, h1, h2⟩
      · exact .inl h
      · by_cases hp : phis.length = 0
        · exact .inr (.inl ⟨f, h1, hp⟩)
        · exact .inr (.inr ⟨f, h1, by omega, h2⟩)
    rcases hcase with rfl | ⟨f, rfl, hp0⟩ | ⟨f, rfl, hpp, hfm⟩
    · have HPI := Lib.hid (phiIn_none (c := ⟨params, (n : Int), blocks⟩) (b := bn) (regs := regs))
      obtain ⟨regs2, hrg2⟩ : ∃ r, r = regs := ⟨_, rfl⟩
      have HC8 := Lib.hid (show MCSt w0 (some ⟨ub, uo, none⟩) us.length uc rb N gb n D7 Wx D7 sv1 tv7 Wx regs2 (addT false s1 bn) from ⟨HSX.out.1, by rw [hrg2]; exact HSX.out.2.1, Step.refl _ _, addT_good HX.out.1.good, (addT_fin _ _ _).trans HX.out.1.fin⟩)
      replace HPI := Lib.hid (HPI.out.trans hrg2.symm)
      clear hrg2 x0
      go_wp2
      obtain ⟨RI, hRI⟩ : ∃ RI, RI = insAll doD (codeRun doD predsC us d) ins regs2 (addT false s1 bn) := ⟨_, rfl⟩
      have HRI := Lib.hid hRI
      have hleft : (addT false s1 bn).left = s1.left := addT_left _ _ _
      have HRL := Lib.hid (show RI.2.left ≤ s1.left from by
        rw [hRI, ← hleft]
        exact (grow_insAll (doF := doD) (grow_code us d) ins regs2 (addT false s1 bn)).left)
      clear hRI hleft
      go_loopg [87] ins.length (fun FF i wq => ∃ j : Nat, j + FF = ins.length ∧ i = .int .i64 j ∧ ∃ regs3 s3 D3 sv3 tv3, Hid (MCSt w0 (some ⟨ub, uo, none⟩) us.length uc rb N gb n D7 Wx D3 sv3 tv3 wq regs3 s3 ∧ insAll doD (codeRun doD predsC us d) (ins.drop j) regs3 s3 = RI))
      case atStart => exact ⟨0, by omega, rfl, _, _, _, _, _, Lib.hid ⟨HC8.out, HRI.out.symm⟩⟩
      case round =>
        obtain ⟨j, hj, rfl, regs3, s3, D3, sv3, tv3, HY⟩ := hrel
        clear HC8
        by_cases hlt : j < ins.length
        · obtain ⟨ib, io, op, tq2, args, num, aa, ac, hia, hy, i0, i1, i2, i3, hyR⟩ := ins_place HBK.out.2.2.1 hlt
          cases hia
          have hji : (j : Int) < (ins.length : Int) := by omega
          have HDR := Lib.hid (drop_of hy)
          have hyv := HBK.out.2.1.ins _ (List.mem_of_getElem? hy)
          have i0 := cell_later HY.out.1.st.base i0
          have i1 := cell_later HY.out.1.st.base i1
          have i2 := cell_later HY.out.1.st.base i2
          have i3 := cell_later HY.out.1.st.base i3
          have hba : Below wr.heap.size wr (wr.alloc (.cells #[.int .i64 op, .int .i64 tq2, .slice aa args.length ac, .int .i64 num] 83)) := (Below.refl _ _).alloc (Nat.le_refl _) _
          have hgrow := HY.out.1.step.block HKX.out.2.1.1 HKX.out.2.1.2
          have g0 := cell_later hba (cell_of_row _ _ 0 _ _ _ hgrow)
          cases hfin : s3.take.fin with
          | some en =>
            have HOV := Lib.hid (show Calls Try.prog 50 #[.pointer (some ⟨rb, 0, none⟩), .agg #[.int .i64 op, .int .i64 tq2, .slice aa args.length ac, .int .i64 num], .slice (some ⟨gb, 0, none⟩) n n] (wr.alloc (.cells #[.int .i64 op, .int .i64 tq2, .slice aa args.length ac, .int .i64 num] 83)) _ from insI_over (X := [.int .i64 op, .int .i64 tq2, .slice aa args.length ac, .int .i64 num]) hNN (HY.out.1.st.later hba) (HY.out.1.rg.later hba) HY.out.1.fin hfin)
            have HEN := Lib.hid (show R = (0, s3.take) by
              have h1 := HY.out.2
              rw [HDR.out, insAll_stop1 hfin] at h1
              rw [← HX.out.2.2.2, HPI.out, block_over HBK.out.1 HRI.out.symm (by rw [← h1]; exact hfin), ← h1])
            have HFI := Lib.hid hfin
            have HBA := Lib.hid hba
            clear hfin hyv hyR hy hba hgrow
            go_wp2_with fail
            refine HOV.out.mono ?_
            rintro e w3 ⟨he, hS3, hT3⟩
            obtain rfl : e = endPanic en := he
            exact ⟨rfl, by rw [HEN.out, HFI.out]; rfl, HFIN.out D3 sv3 tv3 w3 0 s3.take hS3 (HY.out.1.step.trans ((Step.new HBA.out).trans hT3.plus)) HEN.out⟩
          | none =>
            have HFI := Lib.hid hfin
            have htl := RunS.take_lt hfin
            have hsm : s3.take.said.length + s3.take.left < 60000 := by rw [take_said]; have := HY.out.1.good.small; omega
            have HG := Lib.hid (And.intro HY.out.1.good.take (And.intro hsm hyv))
            have HCALL := Lib.hid (show Calls Try.prog 50 #[.pointer (some ⟨rb, 0, none⟩), .agg #[.int .i64 op, .int .i64 tq2, .slice aa args.length ac, .int .i64 num], .slice (some ⟨gb, 0, none⟩) n n] (wr.alloc (.cells #[.int .i64 op, .int .i64 tq2, .slice aa args.length ac, .int .i64 num] 83)) _ from insI_any (c := ⟨params, (n : Int), blocks⟩) HU.out.2.2.1 HU.out.2.2.2.1 hklt hyv _ hyR rfl hnn hNN (HY.out.1.st.later hba) (HY.out.1.rg.later hba) HY.out.1.good HY.out.1.fin hfin)
            have HGI := Lib.hid (good_ins (call := codeRun doD predsC us d) doD_ok (good_code doD_ok us HU.out.2.2.1.numOk d) ⟨op, tq2, args, num⟩ (HU.out.2.2.1.numOk _ (List.mem_of_getElem? HU.out.2.2.2.2.1) _ (List.mem_of_getElem? HBK.out.1) _ (List.mem_of_getElem? hy)) regs3 s3.take HY.out.1.rg.byts HG.out.1 HG.out.2.1)
            have HBA := Lib.hid hba
            clear hfin hyv hyR hy htl hsm hba hgrow
            obtain ⟨r, hr⟩ : ∃ r, r = insRun doD (codeRun doD predsC us d) ⟨op, tq2, args, num⟩ regs3 s3.take := ⟨_, rfl⟩
            rw [← hr] at HCALL HGI
            have HRR := Lib.hid hr
            clear hr
            cases hf4 : r.2.fin with
            | some en =>
              rw [hf4] at HCALL
              have HEN := Lib.hid (show R = (0, r.2) by
                have h1 := HY.out.2
                rw [HDR.out, insAll_stop2 HFI.out (by rw [← HRR.out]; exact hf4), ← HRR.out] at h1
                rw [← HX.out.2.2.2, HPI.out, block_over HBK.out.1 HRI.out.symm (by rw [← h1]; exact hf4), ← h1])
              have HF4 := Lib.hid hf4
              clear hf4
              go_wp2_with fail
              refine HCALL.out.mono ?_
              rintro e w4 ⟨he, D4, sv4, tv4, hS4, -, hT4⟩
              obtain rfl : e = endPanic en := he
              exact ⟨rfl, by rw [HEN.out, HF4.out]; rfl, HFIN.out D4 sv4 tv4 w4 0 r.2 hS4 (HY.out.1.step.trans ((Step.new HBA.out).trans hT4)) HEN.out⟩
            | none =>
              rw [hf4] at HCALL
              have HF4 := Lib.hid hf4
              clear hf4
              go_wp2_with fail
              refine HCALL.out.mono ?_
              rintro e w4 ⟨he, D4, sv4, tv4, hS4, hR4, hT4⟩
              obtain rfl : e = .returned (.tuple #[]) := he
              have HN := Lib.hid (show MCSt w0 (some ⟨ub, uo, none⟩) us.length uc rb N gb n D7 Wx D4 sv4 tv4 w4 r.1 r.2 ∧ insAll doD (codeRun doD predsC us d) (ins.drop (j + 1)) r.1 r.2 = RI from
                ⟨⟨hS4, hR4 HF4.out, HY.out.1.step.trans ((Step.new HBA.out).trans hT4), HGI.out.2, HF4.out⟩, by
                  have h1 := HY.out.2
                  rw [HDR.out, insAll_go HFI.out (by rw [← HRR.out]; exact HF4.out), ← HRR.out] at h1
                  exact h1⟩)
              clear hS4 hR4 hT4 i0 i1 i2 i3 g0
              go_wp2
              go_roundg (ins.length - (j + 1))
              case measure => omega
              case rel => exact ⟨j + 1, by omega, by go_num, r.1, r.2, D4, sv4, tv4, HN⟩
        · obtain rfl : j = ins.length := by omega
          have HEQ := Lib.hid (show RI = (regs3, s3) by
            have h1 := HY.out.2
            rw [List.drop_length] at h1
            exact h1.symm)
          have HTK := Lib.hid (tickI_any HY.out.1.st hNN HY.out.1.fin)
          cases hfin : s3.take.fin with
          | some en =>
            rw [hfin] at HTK
            have HFI := Lib.hid hfin
            have HEN := Lib.hid (show R = (0, s3.take) by
              rw [← HX.out.2.2.2, HPI.out, block_fuel HBK.out.1 (HRI.out.symm.trans HEQ.out) HY.out.1.fin hfin])
            clear hfin
            go_wp2_with fail
            refine HTK.out.mono ?_
            rintro e w3 ⟨he, hS3, hT3⟩
            obtain rfl : e = endPanic en := he
            exact ⟨rfl, by rw [HEN.out, HFI.out]; rfl, HFIN.out D3 sv3 tv3 w3 0 s3.take hS3 (HY.out.1.step.trans hT3.plus) HEN.out⟩
          | none =>
            rw [hfin] at HTK
            have HFI := Lib.hid hfin
            have HG := Lib.hid (And.intro HY.out.1.good.take (RunS.take_lt hfin))
            clear hfin
            go_wp2_with fail
            refine HTK.out.mono ?_
            rintro e w3 ⟨he, hS3, hT3⟩
            obtain rfl : e = .returned (.tuple #[]) := he
            have hx3 := HY.out.1.step.trans hT3.plus
            have HC3 := Lib.hid (show MCSt w0 (some ⟨ub, uo, none⟩) us.length uc rb N gb n D w2 D3 sv3 tv3 w3 regs3 s3.take ∧ Step (fun k => D7 k ∨ k = gb) Wx (fun k => D3 k ∨ k = gb) w3 from
              ⟨⟨hS3, HY.out.1.rg.stay hT3.turned HY.out.1.rg.out (hT3.out HY.out.1.rg.lt.2 HY.out.1.rg.out), HSX.out.2.2.trans hx3, HG.out.1, HFI.out⟩, hx3⟩)
            have hxrow := hx3.block HXB.out.1 HXB.out.2
            have hgrow := hx3.block HKX.out.2.1.1 HKX.out.2.1.2
            have x2 := cell_of_row _ _ 2 _ _ _ hxrow
            have x3 := cell_of_row _ _ 3 _ _ _ hxrow
            have x4 := cell_of_row _ _ 4 _ _ _ hxrow
            have g0 := cell_of_row _ _ 0 _ _ _ hgrow
            simp only [List.getElem?_toArray, List.getElem?_cons_zero, List.getElem?_cons_succ] at x2 x3 x4 g0
            clear hxrow hgrow hx3 hS3 hT3
            rcases HBK.out.2.1.jump with ⟨hj1, hnl⟩ | ⟨hj2, hnl⟩ | ⟨hj3, hnl⟩
            · obtain rfl : jump = 1 := hj1
              change nx.length = 1 at hnl
              rw [hnl] at x4
              obtain ⟨nb, no, y0, hna, hy0, n0⟩ := HBK.out.2.2.2.place (i := 0) (by omega)
              cases hna
              rw [Nat.add_zero] at n0
              have n0 := cell_later HC3.out.1.st.base n0
              have HNX := Lib.hid (show ∀ nn : Nat, y0 = (nn : Int) → nextOf ⟨phis, ins, 1, jon, nx⟩ regs3 = nn from fun nn e => by
                unfold nextOf
                rw [if_pos (.inl rfl)]
                show (nx.getD 0 0).toNat = nn
                rw [List.getD_eq_getElem?_getD, hy0, e]; rfl)
              have HJ := Lib.hid (show (1 : Int) ≠ 3 by omega)
              clear hnl
              have hyr := HBK.out.2.1.nx y0 (List.mem_of_getElem? hy0)
              change 1 ≤ y0 ∧ y0 < (blocks.length : Int) at hyr
              obtain ⟨nn, rfl⟩ : ∃ i : Nat, y0 = (i : Int) := ⟨y0.toNat, by omega⟩
              have hnb : nn < blocks.length := by omega
              obtain ⟨y, hyb⟩ : ∃ y, blocks[nn]? = some y := ⟨_, List.getElem?_eq_getElem hnb⟩
              have HN := Lib.hid (show MCSt w0 (some ⟨ub, uo, none⟩) us.length uc rb N gb n D w2 D3 sv3 tv3 w3 regs3 s3.take ∧ s3.take.left < F ∧ ((bn : Int) = -1 ∨ ∃ f : Nat, (bn : Int) = (f : Int) ∧ (f : Int) ∈ predsC ⟨params, (n : Int), blocks⟩ nn) ∧ blockRun doD (codeRun doD predsC us d) predsC ⟨params, (n : Int), blocks⟩ false F nn (phiIn ⟨params, (n : Int), blocks⟩ nn (bn : Int) regs3) s3.take = R from by
                have h1 := HRL.out
                rw [HEQ.out] at h1
                have h2 := HX.out.2.1
                have h3 := HG.out.2
                dsimp only at h1
                refine ⟨HC3.out.1, by omega, .inr ⟨bn, rfl, preds_mem HBK.out.1 (List.mem_of_getElem? hy0)⟩, ?_⟩
                rw [phiIn_from hyb, ← HX.out.2.2.2, HPI.out, block_next HBK.out.1 (HRI.out.symm.trans HEQ.out) HY.out.1.fin HFI.out HJ.out (HNX.out nn rfl) hyb])
              clear hy0 hyr hyb
              go_wp2
              go_roundg F
              case measure => omega
              case rel => exact ⟨nn, (bn : Int), by go_num, by go_num, hnb, _, _, _, _, _, HN⟩
            · obtain rfl : jump = 2 := hj2
              change nx.length = 2 at hnl
              rw [hnl] at x4
              have hjon := HBK.out.2.1.jon rfl
              change 0 ≤ jon ∧ jon < (n : Int) at hjon
              obtain ⟨jj, rfl⟩ : ∃ i : Nat, jon = (i : Int) := ⟨jon.toNat, by omega⟩
              have hjn : (jj : Int) < (n : Int) := hjon.2
              have rj := HC3.out.1.rg.at (j := jj) (by omega)
              have HJ := Lib.hid (show (2 : Int) ≠ 3 by omega)
              by_cases hv : atI regs3 (jj : Int) = 0
              · obtain ⟨nb, no, y0, hna, hy0, n0⟩ := HBK.out.2.2.2.place (i := 1) (by omega)
                cases hna
                have n0 := cell_later HC3.out.1.st.base n0
                rw [hv] at rj
                have HNX := Lib.hid (show ∀ nn : Nat, y0 = (nn : Int) → nextOf ⟨phis, ins, 2, (jj : Int), nx⟩ regs3 = nn from fun nn e => by
                  unfold nextOf
                  rw [if_neg (by rintro (h | h); · cases h
                                 · exact h hv)]
                  show (nx.getD 1 0).toNat = nn
                  rw [List.getD_eq_getElem?_getD, hy0, e]; rfl)
                clear hnl hv hjon
                have hyr := HBK.out.2.1.nx y0 (List.mem_of_getElem? hy0)
                change 1 ≤ y0 ∧ y0 < (blocks.length : Int) at hyr
                obtain ⟨nn, rfl⟩ : ∃ i : Nat, y0 = (i : Int) := ⟨y0.toNat, by omega⟩
                have hnb : nn < blocks.length := by omega
                obtain ⟨y, hyb⟩ : ∃ y, blocks[nn]? = some y := ⟨_, List.getElem?_eq_getElem hnb⟩
                have HN := Lib.hid (show MCSt w0 (some ⟨ub, uo, none⟩) us.length uc rb N gb n D w2 D3 sv3 tv3 w3 regs3 s3.take ∧ s3.take.left < F ∧ ((bn : Int) = -1 ∨ ∃ f : Nat, (bn : Int) = (f : Int) ∧ (f : Int) ∈ predsC ⟨params, (n : Int), blocks⟩ nn) ∧ blockRun doD (codeRun doD predsC us d) predsC ⟨params, (n : Int), blocks⟩ false F nn (phiIn ⟨params, (n : Int), blocks⟩ nn (bn : Int) regs3) s3.take = R from by
                  have h1 := HRL.out
                  rw [HEQ.out] at h1
                  have h2 := HX.out.2.1
                  have h3 := HG.out.2
                  dsimp only at h1
                  refine ⟨HC3.out.1, by omega, .inr ⟨bn, rfl, preds_mem HBK.out.1 (List.mem_of_getElem? hy0)⟩, ?_⟩
                  rw [phiIn_from hyb, ← HX.out.2.2.2, HPI.out, block_next HBK.out.1 (HRI.out.symm.trans HEQ.out) HY.out.1.fin HFI.out HJ.out (HNX.out nn rfl) hyb])
                clear hy0 hyr hyb
                go_wp2
                go_roundg F
                case measure => omega
                case rel => exact ⟨nn, (bn : Int), by go_num, by go_num, hnb, _, _, _, _, _, HN⟩
              · obtain ⟨nb, no, y0, hna, hy0, n0⟩ := HBK.out.2.2.2.place (i := 0) (by omega)
                cases hna
                rw [Nat.add_zero] at n0
                have n0 := cell_later HC3.out.1.st.base n0
                have HNX := Lib.hid (show ∀ nn : Nat, y0 = (nn : Int) → nextOf ⟨phis, ins, 2, (jj : Int), nx⟩ regs3 = nn from fun nn e => by
                  unfold nextOf
                  rw [if_pos (.inr hv)]
                  show (nx.getD 0 0).toNat = nn
                  rw [List.getD_eq_getElem?_getD, hy0, e]; rfl)
                have hvn : (atI regs3 (jj : Int) == 0) = false := by rw [beq_eq_false_iff_ne]; exact hv
                generalize atI regs3 (jj : Int) = vv at rj hvn
                clear hnl hv hjon
                have hyr := HBK.out.2.1.nx y0 (List.mem_of_getElem? hy0)
                change 1 ≤ y0 ∧ y0 < (blocks.length : Int) at hyr
                obtain ⟨nn, rfl⟩ : ∃ i : Nat, y0 = (i : Int) := ⟨y0.toNat, by omega⟩
                have hnb : nn < blocks.length := by omega
                obtain ⟨y, hyb⟩ : ∃ y, blocks[nn]? = some y := ⟨_, List.getElem?_eq_getElem hnb⟩
                have HN := Lib.hid (show MCSt w0 (some ⟨ub, uo, none⟩) us.length uc rb N gb n D w2 D3 sv3 tv3 w3 regs3 s3.take ∧ s3.take.left < F ∧ ((bn : Int) = -1 ∨ ∃ f : Nat, (bn : Int) = (f : Int) ∧ (f : Int) ∈ predsC ⟨params, (n : Int), blocks⟩ nn) ∧ blockRun doD (codeRun doD predsC us d) predsC ⟨params, (n : Int), blocks⟩ false F nn (phiIn ⟨params, (n : Int), blocks⟩ nn (bn : Int) regs3) s3.take = R from by
                  have h1 := HRL.out
                  rw [HEQ.out] at h1
                  have h2 := HX.out.2.1
                  have h3 := HG.out.2
                  dsimp only at h1
                  refine ⟨HC3.out.1, by omega, .inr ⟨bn, rfl, preds_mem HBK.out.1 (List.mem_of_getElem? hy0)⟩, ?_⟩
                  rw [phiIn_from hyb, ← HX.out.2.2.2, HPI.out, block_next HBK.out.1 (HRI.out.symm.trans HEQ.out) HY.out.1.fin HFI.out HJ.out (HNX.out nn rfl) hyb])
                clear hy0 hyr hyb
                go_wp2
                go_roundg F
                case measure => omega
                case rel => exact ⟨nn, (bn : Int), by go_num, by go_num, hnb, _, _, _, _, _, HN⟩
            · obtain rfl : jump = 3 := hj3
              have hjon := HBK.out.2.1.jon rfl
              change 0 ≤ jon ∧ jon < (n : Int) at hjon
              obtain ⟨jj, rfl⟩ : ∃ i : Nat, jon = (i : Int) := ⟨jon.toNat, by omega⟩
              have hjn : (jj : Int) < (n : Int) := hjon.2
              have rj := HC3.out.1.rg.at (j := jj) (by omega)
              have HEN := Lib.hid (show R = (atI regs3 (jj : Int), s3.take) by
                rw [← HX.out.2.2.2, HPI.out, block_back HBK.out.1 (HRI.out.symm.trans HEQ.out) HY.out.1.fin HFI.out rfl])
              have HE := Lib.hid (HFIN.out D3 sv3 tv3 w3 _ s3.take HC3.out.1.st HC3.out.2 HEN.out)
              generalize atI regs3 (jj : Int) = v at rj HE HEN
              clear hnl hjon
              go_wp2
              go_ret
              exact ⟨by rw [HEN.out, HFI.out]; rfl, HE.out⟩
    · have HPI := Lib.hid (show phiIn ⟨params, (n : Int), blocks⟩ bn (f : Int) regs = regs by rw [phiIn_from HBK.out.1, List.length_eq_zero_iff.1 hp0]; rfl)
      obtain ⟨regs2, hrg2⟩ : ∃ r, r = regs := ⟨_, rfl⟩
      have HC8 := Lib.hid (show MCSt w0 (some ⟨ub, uo, none⟩) us.length uc rb N gb n D7 Wx D7 sv1 tv7 Wx regs2 (addT false s1 bn) from ⟨HSX.out.1, by rw [hrg2]; exact HSX.out.2.1, Step.refl _ _, addT_good HX.out.1.good, (addT_fin _ _ _).trans HX.out.1.fin⟩)
      replace HPI := Lib.hid (HPI.out.trans hrg2.symm)
      have hfge : decide ((f : Int) ≥ 0) = true := decide_eq_true (by omega)
      rw [hp0] at x0
      clear hrg2 hp0
      go_wp2
      clear x0 hfge
      obtain ⟨RI, hRI⟩ : ∃ RI, RI = insAll doD (codeRun doD predsC us d) ins regs2 (addT false s1 bn) := ⟨_, rfl⟩
      have HRI := Lib.hid hRI
      have hleft : (addT false s1 bn).left = s1.left := addT_left _ _ _
      have HRL := Lib.hid (show RI.2.left ≤ s1.left from by
        rw [hRI, ← hleft]
        exact (grow_insAll (doF := doD) (grow_code us d) ins regs2 (addT false s1 bn)).left)
      clear hRI hleft
      go_loopg [87] ins.length (fun FF i wq => ∃ j : Nat, j + FF = ins.length ∧ i = .int .i64 j ∧ ∃ regs3 s3 D3 sv3 tv3, Hid (MCSt w0 (some ⟨ub, uo, none⟩) us.length uc rb N gb n D7 Wx D3 sv3 tv3 wq regs3 s3 ∧ insAll doD (codeRun doD predsC us d) (ins.drop j) regs3 s3 = RI))
      case atStart => exact ⟨0, by omega, rfl, _, _, _, _, _, Lib.hid ⟨HC8.out, HRI.out.symm⟩⟩
      case round =>
        obtain ⟨j, hj, rfl, regs3, s3, D3, sv3, tv3, HY⟩ := hrel
        clear HC8
        by_cases hlt : j < ins.length
        · obtain ⟨ib, io, op, tq2, args, num, aa, ac, hia, hy, i0, i1, i2, i3, hyR⟩ := ins_place HBK.out.2.2.1 hlt
          cases hia
          have hji : (j : Int) < (ins.length : Int) := by omega
          have HDR := Lib.hid (drop_of hy)
          have hyv := HBK.out.2.1.ins _ (List.mem_of_getElem? hy)
          have i0 := cell_later HY.out.1.st.base i0
          have i1 := cell_later HY.out.1.st.base i1
          have i2 := cell_later HY.out.1.st.base i2
          have i3 := cell_later HY.out.1.st.base i3
          have hba : Below wr.heap.size wr (wr.alloc (.cells #[.int .i64 op, .int .i64 tq2, .slice aa args.length ac, .int .i64 num] 83)) := (Below.refl _ _).alloc (Nat.le_refl _) _
          have hgrow := HY.out.1.step.block HKX.out.2.1.1 HKX.out.2.1.2
          have g0 := cell_later hba (cell_of_row _ _ 0 _ _ _ hgrow)
          cases hfin : s3.take.fin with
          | some en =>
            have HOV := Lib.hid (show Calls Try.prog 50 #[.pointer (some ⟨rb, 0, none⟩), .agg #[.int .i64 op, .int .i64 tq2, .slice aa args.length ac, .int .i64 num], .slice (some ⟨gb, 0, none⟩) n n] (wr.alloc (.cells #[.int .i64 op, .int .i64 tq2, .slice aa args.length ac, .int .i64 num] 83)) _ from insI_over (X := [.int .i64 op, .int .i64 tq2, .slice aa args.length ac, .int .i64 num]) hNN (HY.out.1.st.later hba) (HY.out.1.rg.later hba) HY.out.1.fin hfin)
            have HEN := Lib.hid (show R = (0, s3.take) by
              have h1 := HY.out.2
              rw [HDR.out, insAll_stop1 hfin] at h1
              rw [← HX.out.2.2.2, HPI.out, block_over HBK.out.1 HRI.out.symm (by rw [← h1]; exact hfin), ← h1])
            have HFI := Lib.hid hfin
            have HBA := Lib.hid hba
            clear hfin hyv hyR hy hba hgrow
            go_wp2_with fail
            refine HOV.out.mono ?_
            rintro e w3 ⟨he, hS3, hT3⟩
            obtain rfl : e = endPanic en := he
            exact ⟨rfl, by rw [HEN.out, HFI.out]; rfl, HFIN.out D3 sv3 tv3 w3 0 s3.take hS3 (HY.out.1.step.trans ((Step.new HBA.out).trans hT3.plus)) HEN.out⟩
          | none =>
            have HFI := Lib.hid hfin
            have htl := RunS.take_lt hfin
            have hsm : s3.take.said.length + s3.take.left < 60000 := by rw [take_said]; have := HY.out.1.good.small; omega
            have HG := Lib.hid (And.intro HY.out.1.good.take (And.intro hsm hyv))
            have HCALL := Lib.hid (show Calls Try.prog 50 #[.pointer (some ⟨rb, 0, none⟩), .agg #[.int .i64 op, .int .i64 tq2, .slice aa args.length ac, .int .i64 num], .slice (some ⟨gb, 0, none⟩) n n] (wr.alloc (.cells #[.int .i64 op, .int .i64 tq2, .slice aa args.length ac, .int .i64 num] 83)) _ from insI_any (c := ⟨params, (n : Int), blocks⟩) HU.out.2.2.1 HU.out.2.2.2.1 hklt hyv _ hyR rfl hnn hNN (HY.out.1.st.later hba) (HY.out.1.rg.later hba) HY.out.1.good HY.out.1.fin hfin)
            have HGI := Lib.hid (good_ins (call := codeRun doD predsC us d) doD_ok (good_code doD_ok us HU.out.2.2.1.numOk d) ⟨op, tq2, args, num⟩ (HU.out.2.2.1.numOk _ (List.mem_of_getElem? HU.out.2.2.2.2.1) _ (List.mem_of_getElem? HBK.out.1) _ (List.mem_of_getElem? hy)) regs3 s3.take HY.out.1.rg.byts HG.out.1 HG.out.2.1)
            have HBA := Lib.hid hba
            clear hfin hyv hyR hy htl hsm hba hgrow
            obtain ⟨r, hr⟩ : ∃ r, r = insRun doD (codeRun doD predsC us d) ⟨op, tq2, args, num⟩ regs3 s3.take := ⟨_, rfl⟩
            rw [← hr] at HCALL HGI
            have HRR := Lib.hid hr
            clear hr
            cases hf4 : r.2.fin with
            | some en =>
              rw [hf4] at HCALL
              have HEN := Lib.hid (show R = (0, r.2) by
                have h1 := HY.out.2
                rw [HDR.out, insAll_stop2 HFI.out (by rw [← HRR.out]; exact hf4), ← HRR.out] at h1
                rw [← HX.out.2.2.2, HPI.out, block_over HBK.out.1 HRI.out.symm (by rw [← h1]; exact hf4), ← h1])
              have HF4 := Lib.hid hf4
              clear hf4
              go_wp2_with fail
              refine HCALL.out.mono ?_
              rintro e w4 ⟨he, D4, sv4, tv4, hS4, -, hT4⟩
              obtain rfl : e = endPanic en := he
              exact ⟨rfl, by rw [HEN.out, HF4.out]; rfl, HFIN.out D4 sv4 tv4 w4 0 r.2 hS4 (HY.out.1.step.trans ((Step.new HBA.out).trans hT4)) HEN.out⟩
            | none =>
              rw [hf4] at HCALL
              have HF4 := Lib.hid hf4
              clear hf4
              go_wp2_with fail
              refine HCALL.out.mono ?_
              rintro e w4 ⟨he, D4, sv4, tv4, hS4, hR4, hT4⟩
              obtain rfl : e = .returned (.tuple #[]) := he
              have HN := Lib.hid (show MCSt w0 (some ⟨ub, uo, none⟩) us.length uc rb N gb n D7 Wx D4 sv4 tv4 w4 r.1 r.2 ∧ insAll doD (codeRun doD predsC us d) (ins.drop (j + 1)) r.1 r.2 = RI from
                ⟨⟨hS4, hR4 HF4.out, HY.out.1.step.trans ((Step.new HBA.out).trans hT4), HGI.out.2, HF4.out⟩, by
                  have h1 := HY.out.2
                  rw [HDR.out, insAll_go HFI.out (by rw [← HRR.out]; exact HF4.out), ← HRR.out] at h1
                  exact h1⟩)
              clear hS4 hR4 hT4 i0 i1 i2 i3 g0
              go_wp2
              go_roundg (ins.length - (j + 1))
              case measure => omega
              case rel => exact ⟨j + 1, by omega, by go_num, r.1, r.2, D4, sv4, tv4, HN⟩
        · obtain rfl : j = ins.length := by omega
          have HEQ := Lib.hid (show RI = (regs3, s3) by
            have h1 := HY.out.2
            rw [List.drop_length] at h1
            exact h1.symm)
          have HTK := Lib.hid (tickI_any HY.out.1.st hNN HY.out.1.fin)
          cases hfin : s3.take.fin with
          | some en =>
            rw [hfin] at HTK
            have HFI := Lib.hid hfin
            have HEN := Lib.hid (show R = (0, s3.take) by
              rw [← HX.out.2.2.2, HPI.out, block_fuel HBK.out.1 (HRI.out.symm.trans HEQ.out) HY.out.1.fin hfin])
            clear hfin
            go_wp2_with fail
            refine HTK.out.mono ?_
            rintro e w3 ⟨he, hS3, hT3⟩
            obtain rfl : e = endPanic en := he
            exact ⟨rfl, by rw [HEN.out, HFI.out]; rfl, HFIN.out D3 sv3 tv3 w3 0 s3.take hS3 (HY.out.1.step.trans hT3.plus) HEN.out⟩
          | none =>
            rw [hfin] at HTK
            have HFI := Lib.hid hfin
            have HG := Lib.hid (And.intro HY.out.1.good.take (RunS.take_lt hfin))
            clear hfin
            go_wp2_with fail
            refine HTK.out.mono ?_
            rintro e w3 ⟨he, hS3, hT3⟩
            obtain rfl : e = .returned (.tuple #[]) := he
            have hx3 := HY.out.1.step.trans hT3.plus
            have HC3 := Lib.hid (show MCSt w0 (some ⟨ub, uo, none⟩) us.length uc rb N gb n D w2 D3 sv3 tv3 w3 regs3 s3.take ∧ Step (fun k => D7 k ∨ k = gb) Wx (fun k => D3 k ∨ k = gb) w3 from
              ⟨⟨hS3, HY.out.1.rg.stay hT3.turned HY.out.1.rg.out (hT3.out HY.out.1.rg.lt.2 HY.out.1.rg.out), HSX.out.2.2.trans hx3, HG.out.1, HFI.out⟩, hx3⟩)
            have hxrow := hx3.block HXB.out.1 HXB.out.2
            have hgrow := hx3.block HKX.out.2.1.1 HKX.out.2.1.2
            have x2 := cell_of_row _ _ 2 _ _ _ hxrow
            have x3 := cell_of_row _ _ 3 _ _ _ hxrow
            have x4 := cell_of_row _ _ 4 _ _ _ hxrow
            have g0 := cell_of_row _ _ 0 _ _ _ hgrow
            simp only [List.getElem?_toArray, List.getElem?_cons_zero, List.getElem?_cons_succ] at x2 x3 x4 g0
            clear hxrow hgrow hx3 hS3 hT3
            rcases HBK.out.2.1.jump with ⟨hj1, hnl⟩ | ⟨hj2, hnl⟩ | ⟨hj3, hnl⟩
            · obtain rfl : jump = 1 := hj1
              change nx.length = 1 at hnl
              rw [hnl] at x4
              obtain ⟨nb, no, y0, hna, hy0, n0⟩ := HBK.out.2.2.2.place (i := 0) (by omega)
              cases hna
              rw [Nat.add_zero] at n0
              have n0 := cell_later HC3.out.1.st.base n0
              have HNX := Lib.hid (show ∀ nn : Nat, y0 = (nn : Int) → nextOf ⟨phis, ins, 1, jon, nx⟩ regs3 = nn from fun nn e => by
                unfold nextOf
                rw [if_pos (.inl rfl)]
                show (nx.getD 0 0).toNat = nn
                rw [List.getD_eq_getElem?_getD, hy0, e]; rfl)
              have HJ := Lib.hid (show (1 : Int) ≠ 3 by omega)
              clear hnl
              have hyr := HBK.out.2.1.nx y0 (List.mem_of_getElem? hy0)
              change 1 ≤ y0 ∧ y0 < (blocks.length : Int) at hyr
              obtain ⟨nn, rfl⟩ : ∃ i : Nat, y0 = (i : Int) := ⟨y0.toNat, by omega⟩
              have hnb : nn < blocks.length := by omega
              obtain ⟨y, hyb⟩ : ∃ y, blocks[nn]? = some y := ⟨_, List.getElem?_eq_getElem hnb⟩
              have HN := Lib.hid (show MCSt w0 (some ⟨ub, uo, none⟩) us.length uc rb N gb n D w2 D3 sv3 tv3 w3 regs3 s3.take ∧ s3.take.left < F ∧ ((bn : Int) = -1 ∨ ∃ f : Nat, (bn : Int) = (f : Int) ∧ (f : Int) ∈ predsC ⟨params, (n : Int), blocks⟩ nn) ∧ blockRun doD (codeRun doD predsC us d) predsC ⟨params, (n : Int), blocks⟩ false F nn (phiIn ⟨params, (n : Int), blocks⟩ nn (bn : Int) regs3) s3.take = R from by
                have h1 := HRL.out
                rw [HEQ.out] at h1
                have h2 := HX.out.2.1
                have h3 := HG.out.2
                dsimp only at h1
                refine ⟨HC3.out.1, by omega, .inr ⟨bn, rfl, preds_mem HBK.out.1 (List.mem_of_getElem? hy0)⟩, ?_⟩
                rw [phiIn_from hyb, ← HX.out.2.2.2, HPI.out, block_next HBK.out.1 (HRI.out.symm.trans HEQ.out) HY.out.1.fin HFI.out HJ.out (HNX.out nn rfl) hyb])
              clear hy0 hyr hyb
              go_wp2
              go_roundg F
              case measure => omega
              case rel => exact ⟨nn, (bn : Int), by go_num, by go_num, hnb, _, _, _, _, _, HN⟩
            · obtain rfl : jump = 2 := hj2
              change nx.length = 2 at hnl
              rw [hnl] at x4
              have hjon := HBK.out.2.1.jon rfl
              change 0 ≤ jon ∧ jon < (n : Int) at hjon
              obtain ⟨jj, rfl⟩ : ∃ i : Nat, jon = (i : Int) := ⟨jon.toNat, by omega⟩
              have hjn : (jj : Int) < (n : Int) := hjon.2
              have rj := HC3.out.1.rg.at (j := jj) (by omega)
              have HJ := Lib.hid (show (2 : Int) ≠ 3 by omega)
              by_cases hv : atI regs3 (jj : Int) = 0
              · obtain ⟨nb, no, y0, hna, hy0, n0⟩ := HBK.out.2.2.2.place (i := 1) (by omega)
                cases hna
                have n0 := cell_later HC3.out.1.st.base n0
                rw [hv] at rj
                have HNX := Lib.hid (show ∀ nn : Nat, y0 = (nn : Int) → nextOf ⟨phis, ins, 2, (jj : Int), nx⟩ regs3 = nn from fun nn e => by
                  unfold nextOf
                  rw [if_neg (by rintro (h | h); · cases h
                                 · exact h hv)]
                  show (nx.getD 1 0).toNat = nn
                  rw [List.getD_eq_getElem?_getD, hy0, e]; rfl)
                clear hnl hv hjon
                have hyr := HBK.out.2.1.nx y0 (List.mem_of_getElem? hy0)
                change 1 ≤ y0 ∧ y0 < (blocks.length : Int) at hyr
                obtain ⟨nn, rfl⟩ : ∃ i : Nat, y0 = (i : Int) := ⟨y0.toNat, by omega⟩
                have hnb : nn < blocks.length := by omega
                obtain ⟨y, hyb⟩ : ∃ y, blocks[nn]? = some y := ⟨_, List.getElem?_eq_getElem hnb⟩
                have HN := Lib.hid (show MCSt w0 (some ⟨ub, uo, none⟩) us.length uc rb N gb n D w2 D3 sv3 tv3 w3 regs3 s3.take ∧ s3.take.left < F ∧ ((bn : Int) = -1 ∨ ∃ f : Nat, (bn : Int) = (f : Int) ∧ (f : Int) ∈ predsC ⟨params, (n : Int), blocks⟩ nn) ∧ blockRun doD (codeRun doD predsC us d) predsC ⟨params, (n : Int), blocks⟩ false F nn (phiIn ⟨params, (n : Int), blocks⟩ nn (bn : Int) regs3) s3.take = R from by
                  have h1 := HRL.out
                  rw [HEQ.out] at h1
                  have h2 := HX.out.2.1
                  have h3 := HG.out.2
                  dsimp only at h1
                  refine ⟨HC3.out.1, by omega, .inr ⟨bn, rfl, preds_mem HBK.out.1 (List.mem_of_getElem? hy0)⟩, ?_⟩
                  rw [phiIn_from hyb, ← HX.out.2.2.2, HPI.out, block_next HBK.out.1 (HRI.out.symm.trans HEQ.out) HY.out.1.fin HFI.out HJ.out (HNX.out nn rfl) hyb])
                clear hy0 hyr hyb
                go_wp2
                go_roundg F
                case measure => omega
                case rel => exact ⟨nn, (bn : Int), by go_num, by go_num, hnb, _, _, _, _, _, HN⟩
              · obtain ⟨nb, no, y0, hna, hy0, n0⟩ := HBK.out.2.2.2.place (i := 0) (by omega)
                cases hna
                rw [Nat.add_zero] at n0
                have n0 := cell_later HC3.out.1.st.base n0
                have HNX := Lib.hid (show ∀ nn : Nat, y0 = (nn : Int) → nextOf ⟨phis, ins, 2, (jj : Int), nx⟩ regs3 = nn from fun nn e => by
                  unfold nextOf
                  rw [if_pos (.inr hv)]
                  show (nx.getD 0 0).toNat = nn
                  rw [List.getD_eq_getElem?_getD, hy0, e]; rfl)
                have hvn : (atI regs3 (jj : Int) == 0) = false := by rw [beq_eq_false_iff_ne]; exact hv
                generalize atI regs3 (jj : Int) = vv at rj hvn
                clear hnl hv hjon
                have hyr := HBK.out.2.1.nx y0 (List.mem_of_getElem? hy0)
                change 1 ≤ y0 ∧ y0 < (blocks.length : Int) at hyr
                obtain ⟨nn, rfl⟩ : ∃ i : Nat, y0 = (i : Int) := ⟨y0.toNat, by omega⟩
                have hnb : nn < blocks.length := by omega
                obtain ⟨y, hyb⟩ : ∃ y, blocks[nn]? = some y := ⟨_, List.getElem?_eq_getElem hnb⟩
                have HN := Lib.hid (show MCSt w0 (some ⟨ub, uo, none⟩) us.length uc rb N gb n D w2 D3 sv3 tv3 w3 regs3 s3.take ∧ s3.take.left < F ∧ ((bn : Int) = -1 ∨ ∃ f : Nat, (bn : Int) = (f : Int) ∧ (f : Int) ∈ predsC ⟨params, (n : Int), blocks⟩ nn) ∧ blockRun doD (codeRun doD predsC us d) predsC ⟨params, (n : Int), blocks⟩ false F nn (phiIn ⟨params, (n : Int), blocks⟩ nn (bn : Int) regs3) s3.take = R from by
                  have h1 := HRL.out
                  rw [HEQ.out] at h1
                  have h2 := HX.out.2.1
                  have h3 := HG.out.2
                  dsimp only at h1
                  refine ⟨HC3.out.1, by omega, .inr ⟨bn, rfl, preds_mem HBK.out.1 (List.mem_of_getElem? hy0)⟩, ?_⟩
                  rw [phiIn_from hyb, ← HX.out.2.2.2, HPI.out, block_next HBK.out.1 (HRI.out.symm.trans HEQ.out) HY.out.1.fin HFI.out HJ.out (HNX.out nn rfl) hyb])
                clear hy0 hyr hyb
                go_wp2
                go_roundg F
                case measure => omega
                case rel => exact ⟨nn, (bn : Int), by go_num, by go_num, hnb, _, _, _, _, _, HN⟩
            · obtain rfl : jump = 3 := hj3
              have hjon := HBK.out.2.1.jon rfl
              change 0 ≤ jon ∧ jon < (n : Int) at hjon
              obtain ⟨jj, rfl⟩ : ∃ i : Nat, jon = (i : Int) := ⟨jon.toNat, by omega⟩
              have hjn : (jj : Int) < (n : Int) := hjon.2
              have rj := HC3.out.1.rg.at (j := jj) (by omega)
              have HEN := Lib.hid (show R = (atI regs3 (jj : Int), s3.take) by
                rw [← HX.out.2.2.2, HPI.out, block_back HBK.out.1 (HRI.out.symm.trans HEQ.out) HY.out.1.fin HFI.out rfl])
              have HE := Lib.hid (HFIN.out D3 sv3 tv3 w3 _ s3.take HC3.out.1.st HC3.out.2 HEN.out)
              generalize atI regs3 (jj : Int) = v at rj HE HEN
              clear hnl hjon
              go_wp2
              go_ret
              exact ⟨by rw [HEN.out, HFI.out]; rfl, HE.out⟩
    · obtain ⟨L, hL⟩ : ∃ L, L = predsC ⟨params, (n : Int), blocks⟩ bn := ⟨_, rfl⟩
      obtain ⟨pl, hpl'⟩ : ∃ k, k = L.idxOf (f : Int) := ⟨_, rfl⟩
      rw [← hL] at hfm
      have hPV := (HU.out.2.2.1.code k _ HU.out.2.2.2.2.1).blk bn _ HBK.out.1
      have HPL := Lib.hid (show ∀ g ∈ phis, (0 ≤ g.to ∧ g.to < (n : Int)) ∧ g.args.length = L.length ∧ ∀ r ∈ g.args, 0 ≤ r ∧ r < (n : Int) from fun g hg => by
        have h1 := hPV.phis g hg
        rw [hL]
        exact ⟨h1.2.1, h1.2.2.1, h1.2.2.2⟩)
      have hat : L[pl]? = some (f : Int) := hpl' ▸ idxOf_at hfm
      have hpll : pl < L.length := (List.getElem?_eq_some_iff.1 hat).1
      have HIE := Lib.hid (show idxInt (f : Int) L = (pl : Int) from idxInt_some (fun j y hj hy => idxOf_first (L := L) (v := (f : Int)) (hpl' ▸ hj) hy) hat)
      have hLl : L.length ≤ 160 := by rw [hL]; exact Nat.le_trans (preds_len _ _) (by simp [nxs]; exact hcb.2)
      have HPI := Lib.hid (show phiIn ⟨params, (n : Int), blocks⟩ bn (f : Int) regs = phiAll phis pl regs by rw [phiIn_from HBK.out.1, hpl', hL])
      have HPC := Lib.hid (predsOf_any params (n : Int) (some ⟨qb, qo, none⟩) bc (nxs ⟨params, (n : Int), blocks⟩) (bn : Int) (by simp [okN, nxs]; omega) Wx (HU.out.2.1.later HSX.out.1.base))
      have hnx : (nxs ⟨params, (n : Int), blocks⟩).length = blocks.length := by simp [nxs]
      rw [hnx] at HPC
      change Hid (Calls _ _ _ _ fun e w' => RetInts Wx (predsC ⟨params, (n : Int), blocks⟩ bn) (predsC ⟨params, (n : Int), blocks⟩ bn).length e w') at HPC
      rw [← hL] at HPC
      have hfge : decide ((f : Int) ≥ 0) = true := decide_eq_true (by omega)
      have hpgt : decide ((phis.length : Int) > 0) = true := decide_eq_true (by omega)
      have m0 := cell_of_row _ _ 0 _ _ _ HKX.out.1.1
      have m1 := cell_of_row _ _ 1 _ _ _ HKX.out.1.1
      have m2 := cell_of_row _ _ 2 _ _ _ HKX.out.1.1
      simp only [List.getElem?_toArray, List.getElem?_cons_zero, List.getElem?_cons_succ] at m0 m1 m2
      obtain ⟨vs, hvs⟩ : ∃ vs, vs = phiVals phis pl regs := ⟨_, rfl⟩
      have HVS := Lib.hid hvs
      have HVL := Lib.hid (show vs.length = phis.length by rw [hvs]; simp [phiVals])
      have HALL := Lib.hid (show phiTo phis vs phis.length regs = phiAll phis pl regs by rw [hvs]; exact phiTo_all phis pl regs)
      clear hL hpl' hPV hat hnx hvs hfm
      go_wp2_with fail
      refine HPC.out.mono ?_
      rintro e w4 ⟨a2, c2, rfl, hown2, hb2⟩
      have HIX := Lib.hid (index_any a2 L.length c2 L (f : Int) w4 (ints_of_own hown2).toIntsRd (by omega))
      have HB4 := Lib.hid hb2
      clear hown2 hb2 hfge hpgt m0 m1 m2
      go_wp2_with fail
      refine HIX.out.mono ?_
      rintro e w5 ⟨rfl, rfl⟩
      rw [HIE.out]
      have x0 := cell_later HB4.out x0
      obtain ⟨ax, hax⟩ : ∃ b, b = w4.heap.size := ⟨_, rfl⟩
      have HA4 := Lib.hid (show Below w4.heap.size w4 (w4.alloc (.cells #[.int .i64 (pl : Int)] 3)) ∧ (w4.alloc (.cells #[.int .i64 (pl : Int)] 3)).cell? ⟨ax, 0, none⟩ = some (.int .i64 (pl : Int)) from ⟨(Below.refl _ _).alloc (Nat.le_refl _) _, by rw [hax]; exact cell_of_row _ _ 0 _ _ _ (heap_alloc_new w4 _)⟩)
      go_upto_region 10 with fail
      rw [← hax]
      clear hax
      generalize w4.alloc (.cells #[.int .i64 (pl : Int)] 3) = W10 at HA4 ⊢
      have HB10 := Lib.hid (HB4.out.trans (HA4.out.1.mono HB4.out.size))
      have x0 := cell_later HA4.out.1 x0
      have HMP := Lib.hid (mappedP_any 49 #[.pointer (some ⟨gx, 0, none⟩), .pointer (some ⟨ax, 0, none⟩)] (fun p => atI regs (p.args.getD pl 0)) pa phis.length pc phis W10 (HPH.out.later phiR_lasts (HSX.out.1.base.trans (HB10.out.mono HSX.out.1.base.size))) ⟨fun v W => by kernel_rfl, fun y hy cs W hb hyR => by
        obtain ⟨fa, fc, rfl, ⟨hm1, hm2⟩, hA⟩ := hyR
        have hpf := HPL.out y hy
        have hll : pl < y.args.length := by rw [hpf.2.1]; exact hpll
        have hr0 : y.args[pl]? = some (y.args[pl]'hll) := List.getElem?_eq_getElem hll
        have hrr := hpf.2.2 _ (List.getElem_mem hll)
        obtain ⟨r, hr⟩ : ∃ r : Nat, y.args[pl]'hll = (r : Int) := ⟨(y.args[pl]'hll).toNat, by omega⟩
        have hge : y.args.getD pl 0 = (r : Int) := by rw [List.getD_eq_getElem?_getD, hr0, hr]; rfl
        have hbW := HB10.out.trans (hb.mono HB10.out.size)
        have hg1 := cell_later hbW (cell_of_row _ _ 0 _ _ _ HKX.out.2.1.1)
        rw [hge]
        exact phiC_any W hg1 (cell_later hb HA4.out.2) hA (by rw [hpf.2.1]; omega) (hr ▸ hr0) (by omega) hnn ((HSX.out.2.1.later hbW).at (j := r) (by omega))⟩ hplen)
      go_wp2_with fail
      refine HMP.out.mono ?_
      rintro e w11 ⟨a3, c3, rfl, hown3, hb3⟩
      have x0 := cell_later hb3 x0
      have HB11 := Lib.hid (HB10.out.trans (hb3.mono HB10.out.size))
      have HLO := Lib.hid (show w11.ownsRow W10.heap.size 3 1 (.slice a3 phis.length c3) phis.length (vs.map (Value.int .i64)) from by
        have hvv := HVS.out
        unfold phiVals at hvv
        rw [hvv]
        exact hown3)
      have HGL := Lib.hid (show gb < Wx.heap.size ∧ Wx.heap.size ≤ W10.heap.size ∧ gb < gx from ⟨HSX.out.2.1.lt.2, HB10.out.size, HW2.out.2.2.2.2.2.2⟩)
      clear hown3 hb3 HMP HPC HIX
      go_wp2
      go_loopg [70] phis.length (fun FF i wq => ∃ kk : Nat, kk + FF = phis.length ∧ i = .int .i64 kk ∧ Hid (RgSt w0.heap.size gb n D7 wq (phiTo phis vs kk regs) ∧ Turned (fun k => k = gb) w11 wq))
      case atStart => exact ⟨0, by omega, rfl, Lib.hid ⟨HSX.out.2.1.later HB11.out, Turned.refl _ _⟩⟩
      case round =>
        obtain ⟨kk, hkk, rfl, HRT⟩ := hrel
        have HTX := Lib.hid (show Turned (fun k => k = gb) Wx wr from (turned_of_below HB11.out (fun k h1 h2 => by omega)).trans HRT.out.2)
        by_cases hlt : kk < phis.length
        · have hb0 : Below w0.heap.size w0 wr := HSX.out.1.base.trans (HTX.out.below HSX.out.1.base.size (fun k hk => by have := HSX.out.2.1.lt.1; omega))
          obtain ⟨fb, fo, ft, args, fa, fc, hfa, hp, p0, p1, -⟩ := phi_place (HPH.out.later phiR_lasts hb0) hlt
          cases hfa
          have hpf := (HPL.out _ (List.mem_of_getElem? hp)).1
          change 0 ≤ ft ∧ ft < (n : Int) at hpf
          obtain ⟨jt, rfl⟩ : ∃ i : Nat, ft = (i : Int) := ⟨ft.toNat, by omega⟩
          have hki : (kk : Int) < (phis.length : Int) := by omega
          have jl : (jt : Int) < (n : Int) := hpf.2
          have hba : Below wr.heap.size wr (wr.alloc (.cells #[.int .i64 (jt : Int), .slice fa args.length fc] 78)) := (Below.refl _ _).alloc (Nat.le_refl _) _
          have hf0 : (wr.alloc (.cells #[.int .i64 (jt : Int), .slice fa args.length fc] 78)).cell? ⟨wr.heap.size, 0, none⟩ = some (.int .i64 (jt : Int)) := cell_of_row _ _ 0 _ _ _ (heap_alloc_new wr _)
          have g0 := cell_later hba (cell_of_row _ _ 0 _ _ _ ((HTX.out.block gx (Array.getElem?_eq_some_iff.1 HKX.out.2.1.1).1 (by have := HGL.out; omega)).trans HKX.out.2.1.1))
          have hli : IntsRd wr a3 phis.length vs := ⟨HVL.out, rowAt_of_own (own_turned HLO.out HRT.out.2 (fun k hk => by have := (HLO.out.lt k hk).1; have := HGL.out; omega))⟩
          obtain ⟨lb2, lo2, v, hla2, hv, hcv⟩ := hli.place hlt
          cases hla2
          have hcv := cell_later hba hcv
          have rt := (HRT.out.1.later hba).at (j := jt) (by omega)
          have rf := (HRT.out.1.later hba).free jt
          have HST := Lib.hid (phiTo_succ regs hp hv)
          have HVB := Lib.hid (show Byt v by
            have h1 := List.mem_of_getElem? hv
            rw [HVS.out] at h1
            obtain ⟨p, -, rfl⟩ := List.mem_map.1 h1
            exact HX.out.1.rg.byts.at _)
          go_upto_region 14 with fail
          generalize (wr.alloc (.cells #[.int .i64 (jt : Int), .slice fa args.length fc] 78)) = Wp at hba hf0 g0 hcv rt rf ⊢
          have HE := Lib.hid (show RgSt w0.heap.size gb n D7 (Wp.drew.setCell ⟨gb, jt, none⟩ (.int .i64 v)) (phiTo phis vs (kk + 1) regs) ∧ Turned (fun k => k = gb) w11 (Wp.drew.setCell ⟨gb, jt, none⟩ (.int .i64 v)) from by
            have hd : Below wr.heap.size wr Wp.drew := hba.drew
            rw [HST.out]
            exact ⟨(HRT.out.1.later hd).put jt HVB.out, (HRT.out.2.trans (turned_of_below hd (fun k h1 h2 => by omega))).trans (turned_store Wp.drew gb jt (.int .i64 v))⟩)
          obtain ⟨pb, hpb⟩ : ∃ b, b = wr.heap.size := ⟨_, rfl⟩
          rw [← hpb] at hf0 ⊢
          clear hp hpf p0 p1 hli hv hba hb0 hpb
          go_still_tail 8, (by kernel_rfl)
          change wpList _ _ _ _ _ Wp.drew
          go_wp2
          go_roundg (phis.length - (kk + 1))
          case measure => omega
          case rel => exact ⟨kk + 1, by omega, by go_num, HE⟩
        · obtain rfl : kk = phis.length := by omega
          obtain ⟨regs2, hrg2⟩ : ∃ r, r = phiTo phis vs phis.length regs := ⟨_, rfl⟩
          have HC8 := Lib.hid (show MCSt w0 (some ⟨ub, uo, none⟩) us.length uc rb N gb n D7 Wx D7 sv1 tv7 wr regs2 (addT false s1 bn) from ⟨HSX.out.1.stay HTX.out (fun k hk => by subst hk; exact ⟨HSX.out.2.1.out, HSX.out.2.1.lt.1⟩), by rw [hrg2]; exact HRT.out.1, ⟨HTX.out.mono (fun k hk => .inr hk), fun _ _ h => h⟩, addT_good HX.out.1.good, (addT_fin _ _ _).trans HX.out.1.fin⟩)
          replace HPI := Lib.hid (HPI.out.trans (HALL.out.symm.trans hrg2.symm))
          have x1 := cell_of_row _ _ 1 _ _ _ (HC8.out.step.block HXB.out.1 HXB.out.2)
          simp only [List.getElem?_toArray, List.getElem?_cons_zero, List.getElem?_cons_succ] at x1
          clear hrg2 x0
          go_wp2
          obtain ⟨RI, hRI⟩ : ∃ RI, RI = insAll doD (codeRun doD predsC us d) ins regs2 (addT false s1 bn) := ⟨_, rfl⟩
          have HRI := Lib.hid hRI
          have hleft : (addT false s1 bn).left = s1.left := addT_left _ _ _
          have HRL := Lib.hid (show RI.2.left ≤ s1.left from by
            rw [hRI, ← hleft]
            exact (grow_insAll (doF := doD) (grow_code us d) ins regs2 (addT false s1 bn)).left)
          clear hRI hleft
          go_loopg [87] ins.length (fun FF i wq => ∃ j : Nat, j + FF = ins.length ∧ i = .int .i64 j ∧ ∃ regs3 s3 D3 sv3 tv3, Hid (MCSt w0 (some ⟨ub, uo, none⟩) us.length uc rb N gb n D7 Wx D3 sv3 tv3 wq regs3 s3 ∧ insAll doD (codeRun doD predsC us d) (ins.drop j) regs3 s3 = RI))
          case atStart => exact ⟨0, by omega, rfl, _, _, _, _, _, Lib.hid ⟨HC8.out, HRI.out.symm⟩⟩
          case round =>
            obtain ⟨j, hj, rfl, regs3, s3, D3, sv3, tv3, HY⟩ := hrel
            clear HC8
            by_cases hlt : j < ins.length
            · obtain ⟨ib, io, op, tq2, args, num, aa, ac, hia, hy, i0, i1, i2, i3, hyR⟩ := ins_place HBK.out.2.2.1 hlt
              cases hia
              have hji : (j : Int) < (ins.length : Int) := by omega
              have HDR := Lib.hid (drop_of hy)
              have hyv := HBK.out.2.1.ins _ (List.mem_of_getElem? hy)
              have i0 := cell_later HY.out.1.st.base i0
              have i1 := cell_later HY.out.1.st.base i1
              have i2 := cell_later HY.out.1.st.base i2
              have i3 := cell_later HY.out.1.st.base i3
              have hba : Below wr.heap.size wr (wr.alloc (.cells #[.int .i64 op, .int .i64 tq2, .slice aa args.length ac, .int .i64 num] 83)) := (Below.refl _ _).alloc (Nat.le_refl _) _
              have hgrow := HY.out.1.step.block HKX.out.2.1.1 HKX.out.2.1.2
              have g0 := cell_later hba (cell_of_row _ _ 0 _ _ _ hgrow)
              cases hfin : s3.take.fin with
              | some en =>
                have HOV := Lib.hid (show Calls Try.prog 50 #[.pointer (some ⟨rb, 0, none⟩), .agg #[.int .i64 op, .int .i64 tq2, .slice aa args.length ac, .int .i64 num], .slice (some ⟨gb, 0, none⟩) n n] (wr.alloc (.cells #[.int .i64 op, .int .i64 tq2, .slice aa args.length ac, .int .i64 num] 83)) _ from insI_over (X := [.int .i64 op, .int .i64 tq2, .slice aa args.length ac, .int .i64 num]) hNN (HY.out.1.st.later hba) (HY.out.1.rg.later hba) HY.out.1.fin hfin)
                have HEN := Lib.hid (show R = (0, s3.take) by
                  have h1 := HY.out.2
                  rw [HDR.out, insAll_stop1 hfin] at h1
                  rw [← HX.out.2.2.2, HPI.out, block_over HBK.out.1 HRI.out.symm (by rw [← h1]; exact hfin), ← h1])
                have HFI := Lib.hid hfin
                have HBA := Lib.hid hba
                clear hfin hyv hyR hy hba hgrow
                go_wp2_with fail
                refine HOV.out.mono ?_
                rintro e w3 ⟨he, hS3, hT3⟩
                obtain rfl : e = endPanic en := he
                exact ⟨rfl, by rw [HEN.out, HFI.out]; rfl, HFIN.out D3 sv3 tv3 w3 0 s3.take hS3 (HY.out.1.step.trans ((Step.new HBA.out).trans hT3.plus)) HEN.out⟩
              | none =>
                have HFI := Lib.hid hfin
                have htl := RunS.take_lt hfin
                have hsm : s3.take.said.length + s3.take.left < 60000 := by rw [take_said]; have := HY.out.1.good.small; omega
                have HG := Lib.hid (And.intro HY.out.1.good.take (And.intro hsm hyv))
                have HCALL := Lib.hid (show Calls Try.prog 50 #[.pointer (some ⟨rb, 0, none⟩), .agg #[.int .i64 op, .int .i64 tq2, .slice aa args.length ac, .int .i64 num], .slice (some ⟨gb, 0, none⟩) n n] (wr.alloc (.cells #[.int .i64 op, .int .i64 tq2, .slice aa args.length ac, .int .i64 num] 83)) _ from insI_any (c := ⟨params, (n : Int), blocks⟩) HU.out.2.2.1 HU.out.2.2.2.1 hklt hyv _ hyR rfl hnn hNN (HY.out.1.st.later hba) (HY.out.1.rg.later hba) HY.out.1.good HY.out.1.fin hfin)
                have HGI := Lib.hid (good_ins (call := codeRun doD predsC us d) doD_ok (good_code doD_ok us HU.out.2.2.1.numOk d) ⟨op, tq2, args, num⟩ (HU.out.2.2.1.numOk _ (List.mem_of_getElem? HU.out.2.2.2.2.1) _ (List.mem_of_getElem? HBK.out.1) _ (List.mem_of_getElem? hy)) regs3 s3.take HY.out.1.rg.byts HG.out.1 HG.out.2.1)
                have HBA := Lib.hid hba
                clear hfin hyv hyR hy htl hsm hba hgrow
                obtain ⟨r, hr⟩ : ∃ r, r = insRun doD (codeRun doD predsC us d) ⟨op, tq2, args, num⟩ regs3 s3.take := ⟨_, rfl⟩
                rw [← hr] at HCALL HGI
                have HRR := Lib.hid hr
                clear hr
                cases hf4 : r.2.fin with
                | some en =>
                  rw [hf4] at HCALL
                  have HEN := Lib.hid (show R = (0, r.2) by
                    have h1 := HY.out.2
                    rw [HDR.out, insAll_stop2 HFI.out (by rw [← HRR.out]; exact hf4), ← HRR.out] at h1
                    rw [← HX.out.2.2.2, HPI.out, block_over HBK.out.1 HRI.out.symm (by rw [← h1]; exact hf4), ← h1])
                  have HF4 := Lib.hid hf4
                  clear hf4
                  go_wp2_with fail
                  refine HCALL.out.mono ?_
                  rintro e w4 ⟨he, D4, sv4, tv4, hS4, -, hT4⟩
                  obtain rfl : e = endPanic en := he
                  exact ⟨rfl, by rw [HEN.out, HF4.out]; rfl, HFIN.out D4 sv4 tv4 w4 0 r.2 hS4 (HY.out.1.step.trans ((Step.new HBA.out).trans hT4)) HEN.out⟩
                | none =>
                  rw [hf4] at HCALL
                  have HF4 := Lib.hid hf4
                  clear hf4
                  go_wp2_with fail
                  refine HCALL.out.mono ?_
                  rintro e w4 ⟨he, D4, sv4, tv4, hS4, hR4, hT4⟩
                  obtain rfl : e = .returned (.tuple #[]) := he
                  have HN := Lib.hid (show MCSt w0 (some ⟨ub, uo, none⟩) us.length uc rb N gb n D7 Wx D4 sv4 tv4 w4 r.1 r.2 ∧ insAll doD (codeRun doD predsC us d) (ins.drop (j + 1)) r.1 r.2 = RI from
                    ⟨⟨hS4, hR4 HF4.out, HY.out.1.step.trans ((Step.new HBA.out).trans hT4), HGI.out.2, HF4.out⟩, by
                      have h1 := HY.out.2
                      rw [HDR.out, insAll_go HFI.out (by rw [← HRR.out]; exact HF4.out), ← HRR.out] at h1
                      exact h1⟩)
                  clear hS4 hR4 hT4 i0 i1 i2 i3 g0
                  go_wp2
                  go_roundg (ins.length - (j + 1))
                  case measure => omega
                  case rel => exact ⟨j + 1, by omega, by go_num, r.1, r.2, D4, sv4, tv4, HN⟩
            · obtain rfl : j = ins.length := by omega
              have HEQ := Lib.hid (show RI = (regs3, s3) by
                have h1 := HY.out.2
                rw [List.drop_length] at h1
                exact h1.symm)
              have HTK := Lib.hid (tickI_any HY.out.1.st hNN HY.out.1.fin)
              cases hfin : s3.take.fin with
              | some en =>
                rw [hfin] at HTK
                have HFI := Lib.hid hfin
                have HEN := Lib.hid (show R = (0, s3.take) by
                  rw [← HX.out.2.2.2, HPI.out, block_fuel HBK.out.1 (HRI.out.symm.trans HEQ.out) HY.out.1.fin hfin])
                clear hfin
                go_wp2_with fail
                refine HTK.out.mono ?_
                rintro e w3 ⟨he, hS3, hT3⟩
                obtain rfl : e = endPanic en := he
                exact ⟨rfl, by rw [HEN.out, HFI.out]; rfl, HFIN.out D3 sv3 tv3 w3 0 s3.take hS3 (HY.out.1.step.trans hT3.plus) HEN.out⟩
              | none =>
                rw [hfin] at HTK
                have HFI := Lib.hid hfin
                have HG := Lib.hid (And.intro HY.out.1.good.take (RunS.take_lt hfin))
                clear hfin
                go_wp2_with fail
                refine HTK.out.mono ?_
                rintro e w3 ⟨he, hS3, hT3⟩
                obtain rfl : e = .returned (.tuple #[]) := he
                have hx3 := HY.out.1.step.trans hT3.plus
                have HC3 := Lib.hid (show MCSt w0 (some ⟨ub, uo, none⟩) us.length uc rb N gb n D w2 D3 sv3 tv3 w3 regs3 s3.take ∧ Step (fun k => D7 k ∨ k = gb) Wx (fun k => D3 k ∨ k = gb) w3 from
                  ⟨⟨hS3, HY.out.1.rg.stay hT3.turned HY.out.1.rg.out (hT3.out HY.out.1.rg.lt.2 HY.out.1.rg.out), HSX.out.2.2.trans hx3, HG.out.1, HFI.out⟩, hx3⟩)
                have hxrow := hx3.block HXB.out.1 HXB.out.2
                have hgrow := hx3.block HKX.out.2.1.1 HKX.out.2.1.2
                have x2 := cell_of_row _ _ 2 _ _ _ hxrow
                have x3 := cell_of_row _ _ 3 _ _ _ hxrow
                have x4 := cell_of_row _ _ 4 _ _ _ hxrow
                have g0 := cell_of_row _ _ 0 _ _ _ hgrow
                simp only [List.getElem?_toArray, List.getElem?_cons_zero, List.getElem?_cons_succ] at x2 x3 x4 g0
                clear hxrow hgrow hx3 hS3 hT3
                rcases HBK.out.2.1.jump with ⟨hj1, hnl⟩ | ⟨hj2, hnl⟩ | ⟨hj3, hnl⟩
                · obtain rfl : jump = 1 := hj1
                  change nx.length = 1 at hnl
                  rw [hnl] at x4
                  obtain ⟨nb, no, y0, hna, hy0, n0⟩ := HBK.out.2.2.2.place (i := 0) (by omega)
                  cases hna
                  rw [Nat.add_zero] at n0
                  have n0 := cell_later HC3.out.1.st.base n0
                  have HNX := Lib.hid (show ∀ nn : Nat, y0 = (nn : Int) → nextOf ⟨phis, ins, 1, jon, nx⟩ regs3 = nn from fun nn e => by
                    unfold nextOf
                    rw [if_pos (.inl rfl)]
                    show (nx.getD 0 0).toNat = nn
                    rw [List.getD_eq_getElem?_getD, hy0, e]; rfl)
                  have HJ := Lib.hid (show (1 : Int) ≠ 3 by omega)
                  clear hnl
                  have hyr := HBK.out.2.1.nx y0 (List.mem_of_getElem? hy0)
                  change 1 ≤ y0 ∧ y0 < (blocks.length : Int) at hyr
                  obtain ⟨nn, rfl⟩ : ∃ i : Nat, y0 = (i : Int) := ⟨y0.toNat, by omega⟩
                  have hnb : nn < blocks.length := by omega
                  obtain ⟨y, hyb⟩ : ∃ y, blocks[nn]? = some y := ⟨_, List.getElem?_eq_getElem hnb⟩
                  have HN := Lib.hid (show MCSt w0 (some ⟨ub, uo, none⟩) us.length uc rb N gb n D w2 D3 sv3 tv3 w3 regs3 s3.take ∧ s3.take.left < F ∧ ((bn : Int) = -1 ∨ ∃ f : Nat, (bn : Int) = (f : Int) ∧ (f : Int) ∈ predsC ⟨params, (n : Int), blocks⟩ nn) ∧ blockRun doD (codeRun doD predsC us d) predsC ⟨params, (n : Int), blocks⟩ false F nn (phiIn ⟨params, (n : Int), blocks⟩ nn (bn : Int) regs3) s3.take = R from by
                    have h1 := HRL.out
                    rw [HEQ.out] at h1
                    have h2 := HX.out.2.1
                    have h3 := HG.out.2
                    dsimp only at h1
                    refine ⟨HC3.out.1, by omega, .inr ⟨bn, rfl, preds_mem HBK.out.1 (List.mem_of_getElem? hy0)⟩, ?_⟩
                    rw [phiIn_from hyb, ← HX.out.2.2.2, HPI.out, block_next HBK.out.1 (HRI.out.symm.trans HEQ.out) HY.out.1.fin HFI.out HJ.out (HNX.out nn rfl) hyb])
                  clear hy0 hyr hyb
                  go_wp2
                  go_roundg F
                  case measure => omega
                  case rel => exact ⟨nn, (bn : Int), by go_num, by go_num, hnb, _, _, _, _, _, HN⟩
                · obtain rfl : jump = 2 := hj2
                  change nx.length = 2 at hnl
                  rw [hnl] at x4
                  have hjon := HBK.out.2.1.jon rfl
                  change 0 ≤ jon ∧ jon < (n : Int) at hjon
                  obtain ⟨jj, rfl⟩ : ∃ i : Nat, jon = (i : Int) := ⟨jon.toNat, by omega⟩
                  have hjn : (jj : Int) < (n : Int) := hjon.2
                  have rj := HC3.out.1.rg.at (j := jj) (by omega)
                  have HJ := Lib.hid (show (2 : Int) ≠ 3 by omega)
                  by_cases hv : atI regs3 (jj : Int) = 0
                  · obtain ⟨nb, no, y0, hna, hy0, n0⟩ := HBK.out.2.2.2.place (i := 1) (by omega)
                    cases hna
                    have n0 := cell_later HC3.out.1.st.base n0
                    rw [hv] at rj
                    have HNX := Lib.hid (show ∀ nn : Nat, y0 = (nn : Int) → nextOf ⟨phis, ins, 2, (jj : Int), nx⟩ regs3 = nn from fun nn e => by
                      unfold nextOf
                      rw [if_neg (by rintro (h | h); · cases h
                                     · exact h hv)]
                      show (nx.getD 1 0).toNat = nn
                      rw [List.getD_eq_getElem?_getD, hy0, e]; rfl)
                    clear hnl hv hjon
                    have hyr := HBK.out.2.1.nx y0 (List.mem_of_getElem? hy0)
                    change 1 ≤ y0 ∧ y0 < (blocks.length : Int) at hyr
                    obtain ⟨nn, rfl⟩ : ∃ i : Nat, y0 = (i : Int) := ⟨y0.toNat, by omega⟩
                    have hnb : nn < blocks.length := by omega
                    obtain ⟨y, hyb⟩ : ∃ y, blocks[nn]? = some y := ⟨_, List.getElem?_eq_getElem hnb⟩
                    have HN := Lib.hid (show MCSt w0 (some ⟨ub, uo, none⟩) us.length uc rb N gb n D w2 D3 sv3 tv3 w3 regs3 s3.take ∧ s3.take.left < F ∧ ((bn : Int) = -1 ∨ ∃ f : Nat, (bn : Int) = (f : Int) ∧ (f : Int) ∈ predsC ⟨params, (n : Int), blocks⟩ nn) ∧ blockRun doD (codeRun doD predsC us d) predsC ⟨params, (n : Int), blocks⟩ false F nn (phiIn ⟨params, (n : Int), blocks⟩ nn (bn : Int) regs3) s3.take = R from by
                      have h1 := HRL.out
                      rw [HEQ.out] at h1
                      have h2 := HX.out.2.1
                      have h3 := HG.out.2
                      dsimp only at h1
                      refine ⟨HC3.out.1, by omega, .inr ⟨bn, rfl, preds_mem HBK.out.1 (List.mem_of_getElem? hy0)⟩, ?_⟩
                      rw [phiIn_from hyb, ← HX.out.2.2.2, HPI.out, block_next HBK.out.1 (HRI.out.symm.trans HEQ.out) HY.out.1.fin HFI.out HJ.out (HNX.out nn rfl) hyb])
                    clear hy0 hyr hyb
                    go_wp2
                    go_roundg F
                    case measure => omega
                    case rel => exact ⟨nn, (bn : Int), by go_num, by go_num, hnb, _, _, _, _, _, HN⟩
                  · obtain ⟨nb, no, y0, hna, hy0, n0⟩ := HBK.out.2.2.2.place (i := 0) (by omega)
                    cases hna
                    rw [Nat.add_zero] at n0
                    have n0 := cell_later HC3.out.1.st.base n0
                    have HNX := Lib.hid (show ∀ nn : Nat, y0 = (nn : Int) → nextOf ⟨phis, ins, 2, (jj : Int), nx⟩ regs3 = nn from fun nn e => by
                      unfold nextOf
                      rw [if_pos (.inr hv)]
                      show (nx.getD 0 0).toNat = nn
                      rw [List.getD_eq_getElem?_getD, hy0, e]; rfl)
                    have hvn : (atI regs3 (jj : Int) == 0) = false := by rw [beq_eq_false_iff_ne]; exact hv
                    generalize atI regs3 (jj : Int) = vv at rj hvn
                    clear hnl hv hjon
                    have hyr := HBK.out.2.1.nx y0 (List.mem_of_getElem? hy0)
                    change 1 ≤ y0 ∧ y0 < (blocks.length : Int) at hyr
                    obtain ⟨nn, rfl⟩ : ∃ i : Nat, y0 = (i : Int) := ⟨y0.toNat, by omega⟩
                    have hnb : nn < blocks.length := by omega
                    obtain ⟨y, hyb⟩ : ∃ y, blocks[nn]? = some y := ⟨_, List.getElem?_eq_getElem hnb⟩
                    have HN := Lib.hid (show MCSt w0 (some ⟨ub, uo, none⟩) us.length uc rb N gb n D w2 D3 sv3 tv3 w3 regs3 s3.take ∧ s3.take.left < F ∧ ((bn : Int) = -1 ∨ ∃ f : Nat, (bn : Int) = (f : Int) ∧ (f : Int) ∈ predsC ⟨params, (n : Int), blocks⟩ nn) ∧ blockRun doD (codeRun doD predsC us d) predsC ⟨params, (n : Int), blocks⟩ false F nn (phiIn ⟨params, (n : Int), blocks⟩ nn (bn : Int) regs3) s3.take = R from by
                      have h1 := HRL.out
                      rw [HEQ.out] at h1
                      have h2 := HX.out.2.1
                      have h3 := HG.out.2
                      dsimp only at h1
                      refine ⟨HC3.out.1, by omega, .inr ⟨bn, rfl, preds_mem HBK.out.1 (List.mem_of_getElem? hy0)⟩, ?_⟩
                      rw [phiIn_from hyb, ← HX.out.2.2.2, HPI.out, block_next HBK.out.1 (HRI.out.symm.trans HEQ.out) HY.out.1.fin HFI.out HJ.out (HNX.out nn rfl) hyb])
                    clear hy0 hyr hyb
                    go_wp2
                    go_roundg F
                    case measure => omega
                    case rel => exact ⟨nn, (bn : Int), by go_num, by go_num, hnb, _, _, _, _, _, HN⟩
                · obtain rfl : jump = 3 := hj3
                  have hjon := HBK.out.2.1.jon rfl
                  change 0 ≤ jon ∧ jon < (n : Int) at hjon
                  obtain ⟨jj, rfl⟩ : ∃ i : Nat, jon = (i : Int) := ⟨jon.toNat, by omega⟩
                  have hjn : (jj : Int) < (n : Int) := hjon.2
                  have rj := HC3.out.1.rg.at (j := jj) (by omega)
                  have HEN := Lib.hid (show R = (atI regs3 (jj : Int), s3.take) by
                    rw [← HX.out.2.2.2, HPI.out, block_back HBK.out.1 (HRI.out.symm.trans HEQ.out) HY.out.1.fin HFI.out rfl])
                  have HE := Lib.hid (HFIN.out D3 sv3 tv3 w3 _ s3.take HC3.out.1.st HC3.out.2 HEN.out)
                  generalize atI regs3 (jj : Int) = v at rj HE HEN
                  clear hnl hjon
                  go_wp2
                  go_ret
                  exact ⟨by rw [HEN.out, HFI.out]; rfl, HE.out⟩

theorem codeI_all (hV : UnitV us) (hsz : szS szCodeD us ≤ 1048576) (hU : SliceRd 3 CodeR w0 ua us.length us) (hNN : N ≤ 60000) : ∀ d, MCodeC w0 us ua uc rb N d d
  | 0 => fun k _ _ _ _ _ _ _ _ _ _ hk => absurd hk (Nat.not_lt_zero _)
  | d + 1 => fun k c inp ia ic D sv tv w s main hkd hk hpl hin hby h hf hs hm htr => by
    have hC : MCodeC w0 us ua uc rb N d k := fun k' c' inp ia ic D sv tv w s main hk' => codeI_all hV hsz hU hNN d k' c' inp ia ic D sv tv w s main (by omega)
    have hkl := (List.getElem?_eq_some_iff.1 hk).1
    by_cases he : k + 1 = us.length
    · obtain rfl : main = true := by rw [hm]; simpa using he
      exact codeI_main hV hsz hU hC hk he hNN hpl hin hby h hf hs (htr rfl)
    · obtain rfl : main = false := by rw [hm]; simpa using he
      exact codeI_sub hV hsz hU hC hk (by omega) hNN hpl hin hby h hf hs
end

end Go.Proofs.Ytajnldkempeheaa
