/-
  The program's run of a unit on the heap: an instruction. (printed by mkru2.py)
-/
import Derived.Test.YtajnldkempeheaaRu1
import Derived.Test.YtajnldkempeheaaRq3

namespace Go.Proofs.Ytajnldkempeheaa
open Go.RowKit
set_option linter.unusedVariables false
set_option linter.unusedSimpArgs false

/-- What an instruction leaves. -/
def IPost (w0 : World) (ua : Option Addr) (nu uc rb N gb n : Nat) (D : Nat → Prop) (w : World) (r : List Int × RunS) (w' : World) : Prop :=
  ∃ D' sv' tv', MSt w0 ua nu uc rb N D' sv' tv' w' r.2 ∧ (r.2.fin = none → RgSt w0.heap.size gb n D' w' r.1) ∧ Step (fun k => D k ∨ k = gb) w (fun k => D' k ∨ k = gb) w'
/-- In the middle of an instruction: behind its step. -/
structure DSt (w0 : World) (ua : Option Addr) (nu uc rb N gb n xb : Nat) (X : List Value) (B D : Nat → Prop) (sv tv : Value) (w : World) (regs : List Int) (s : RunS) (W : World) : Prop where
  st : MSt w0 ua nu uc rb N D sv tv W s
  rg : RgSt w0.heap.size gb n D W regs
  x : W.heap[xb]? = some (.cells X.toArray 83 (0, 0))
  g : W.heap[xb + 1]? = some (.cells #[.slice (some ⟨gb, 0, none⟩) n n] 26 (0, 0))
  step : Step B w D W
  nd : ¬ D xb ∧ ¬ D (xb + 1) ∧ gb < xb
section
variable {w0 w W W' : World} {ua : Option Addr} {nu uc rb N gb n xb : Nat} {X : List Value} {B D : Nat → Prop} {sv tv : Value} {s : RunS} {regs : List Int}
theorem DSt.later (h : DSt w0 ua nu uc rb N gb n xb X B D sv tv w regs s W) (hb : Below W.heap.size W W') : DSt w0 ua nu uc rb N gb n xb X B D sv tv w regs s W' :=
  ⟨h.st.later hb, h.rg.later hb, (hb.block _ (Array.getElem?_eq_some_iff.1 h.x).1).trans h.x, (hb.block _ (Array.getElem?_eq_some_iff.1 h.g).1).trans h.g, h.step.trans (Step.new hb), h.nd⟩
theorem DSt.drewN (h : DSt w0 ua nu uc rb N gb n xb X B D sv tv w regs s W) (q : Nat) : DSt w0 ua nu uc rb N gb n xb X B D sv tv w regs s (W.drewN q) := h.later (below_drewN (Below.refl _ _) q)
theorem DSt.xc (h : DSt w0 ua nu uc rb N gb n xb X B D sv tv w regs s W) (i : Nat) : W.cell? ⟨xb, i, none⟩ = X[i]? := by rw [cell_of_row _ _ i _ _ _ h.x]; simp
theorem DSt.gc (h : DSt w0 ua nu uc rb N gb n xb X B D sv tv w regs s W) : W.cell? ⟨xb + 1, 0, none⟩ = some (.slice (some ⟨gb, 0, none⟩) n n) := cell_of_row _ _ 0 _ _ _ h.g
theorem DSt.ends (h : DSt w0 ua nu uc rb N gb n xb X B D sv tv w regs s W) (en : Int) : IPost w0 ua nu uc rb N gb n B w (regs, s.stop en) W := ⟨D, sv, tv, h.st.stop en, fun _ => h.rg, h.step.plus⟩
/-- A register is set. -/
theorem DSt.put (h : DSt w0 ua nu uc rb N gb n xb X B D sv tv w regs s W) (j : Nat) {v : Int} (hv : Byt v) :
    IPost w0 ua nu uc rb N gb n B w (setI regs (j : Int) v, s) (W.setCell ⟨gb, j, none⟩ (.int .i64 v)) ∧
    ((W.setCell ⟨gb, j, none⟩ (.int .i64 v)).cell? ⟨xb + 1, 0, none⟩ = some (.slice (some ⟨gb, 0, none⟩) n n) ∧ (W.setCell ⟨gb, j, none⟩ (.int .i64 v)).cell? ⟨xb, 0, none⟩ = X[0]? ∧ (W.setCell ⟨gb, j, none⟩ (.int .i64 v)).cell? ⟨xb, 1, none⟩ = X[1]?) := by
  have ht := turned_store W gb j (.int .i64 v)
  have hx := (ht.block xb (Array.getElem?_eq_some_iff.1 h.x).1 (by have := h.nd; omega)).trans h.x
  refine ⟨⟨D, sv, tv, h.st.stay ht (fun k hk => by subst hk; exact ⟨h.rg.out, h.rg.lt.1⟩), fun _ => h.rg.put j hv, h.step.plus.trans ⟨ht.mono (fun k hk => .inr hk), fun _ _ h => h⟩⟩,
    cell_of_row _ _ 0 _ _ _ ((ht.block (xb + 1) (Array.getElem?_eq_some_iff.1 h.g).1 (by have := h.nd; omega)).trans h.g), ?_, ?_⟩
  · rw [cell_of_row _ _ 0 _ _ _ hx]; simp
  · rw [cell_of_row _ _ 1 _ _ _ hx]; simp
theorem DSt.start (h : MSt w0 ua nu uc rb N D sv tv w s) (hr : RgSt w0.heap.size gb n D w regs) (X : List Value) {W2 w3 : World} (hW : (w.alloc (.cells X.toArray 83)).alloc (.cells #[.slice (some ⟨gb, 0, none⟩) n n] 26) = W2)
    {s' : RunS} (h3 : MSt w0 ua nu uc rb N D sv tv w3 s') (hT : Step D W2 D w3) : DSt w0 ua nu uc rb N gb n w.heap.size X D D sv tv w regs s' w3 := by
  have hb := (two_blocks w (.cells X.toArray 83) (.cells #[.slice (some ⟨gb, 0, none⟩) n n] 26))
  rw [hW] at hb
  have n1 : ¬ D w.heap.size := fun hd => Nat.lt_irrefl _ (h.hi _ hd)
  have n2 : ¬ D (w.heap.size + 1) := fun hd => by have := h.hi _ hd; omega
  exact ⟨h3, (hr.later hb.2.2.2).stay hT.turned hr.out hr.out, hT.block hb.1 n1, hT.block hb.2.1 n2, (Step.new hb.2.2.2).trans hT, n1, n2, hr.lt.2⟩
set_option maxRecDepth 100000 in
set_option maxHeartbeats 4000000 in
theorem insI_num (call : Nat → List Int → RunS → Int × RunS) {num tq : Int} {ac   : Nat} {aa : Option Addr} (hnl : n ≤ 300) (hN : N ≤ 60000) (h : MSt w0 ua nu uc rb N D sv tv w s) (hr : RgSt w0.heap.size gb n D w regs) (hs : Good s) (hf : s.fin = none) (htk : s.take.fin = none) (hnum : Byt num) (htq : 0 ≤ tq ∧ tq < n) :
    Calls Try.prog 50 #[.pointer (some ⟨rb, 0, none⟩), .agg #[.int .i64 1, .int .i64 tq, .slice aa 0 ac, .int .i64 num], .slice (some ⟨gb, 0, none⟩) n n] w fun e w' => e = outE (insRun doD call ⟨1, tq, [], num⟩ regs s.take).2.fin (.tuple #[]) ∧ IPost w0 ua nu uc rb N gb n D w (insRun doD call ⟨1, tq, [], num⟩ regs s.take) w' := by
  have hI : insRun doD call ⟨1, tq, [], num⟩ regs s.take = insDo doD call ⟨1, tq, [], num⟩ (num) (0) regs s.take := insRun_of rfl rfl
  rw [hI]
  clear hI
  obtain ⟨jt, rfl⟩ : ∃ j : Nat, tq = (j : Int) := ⟨tq.toNat, by omega⟩
  have hd : doD 1 num 0 = (num, 0) := by rw [doD, byt_in hnum, byt_in byt_zero]; rfl
  rw [insDo_pure (by show 1 ≤ (1 : Int) ∧ (1 : Int) ≤ 10; omega) hd]
  have HNB := Lib.hid hnum
  have jl : (jt : Int) < (n : Int) := htq.2
  clear hd hnum htq
  have hmf : ∀ (fn : Fn) (first cap : Array Value) (w : World), (Instr.makeFunc fn first cap).run Try.prog w = .ok (.func fn first cap) w := fun _ _ _ _ => rfl
  have hba := (two_blocks w (.cells #[.int .i64 1, .int .i64 (jt : Int), .slice aa 0 ac, .int .i64 num] 83) (.cells #[.slice (some ⟨gb, 0, none⟩) n n] 26)).2.2.2
  have hrlt := hr.lt
  have hbs := h.base.size
  generalize hW : ((w.alloc (.cells #[.int .i64 1, .int .i64 (jt : Int), .slice aa 0 ac, .int .i64 num] 83)).alloc (.cells #[.slice (some ⟨gb, 0, none⟩) n n] 26)) = W2 at hba
  have HT := Lib.hid (tickI_any (h.later hba) hN hf)
  rw [htk] at HT
  have HW := Lib.hid hW
  have HTF := Lib.hid htk
  have HD := Lib.hid (fun w3 (h3 : MSt w0 ua nu uc rb N D sv tv w3 s.take) (hT : Step D W2 D w3) => show DSt w0 ua nu uc rb N gb n w.heap.size [.int .i64 1, .int .i64 (jt : Int), .slice aa 0 ac, .int .i64 num] D D sv tv w regs s.take w3 from DSt.start h hr _ hW h3 hT)
  have hen : ∀ v W, (callFunc 69 (#[v] ++ #[.pointer (some ⟨w.heap.size + 1, 0, none⟩), .pointer (some ⟨w.heap.size, 0, none⟩)])).run Try.prog W = .ok (.enter 69 (#[v] ++ #[.pointer (some ⟨w.heap.size + 1, 0, none⟩), .pointer (some ⟨w.heap.size, 0, none⟩)])) W := fun v W => by kernel_rfl
  clear h hr hf hba hW htk hs
  obtain ⟨xb, hxb⟩ : ∃ b, b = w.heap.size := ⟨_, rfl⟩
  rw [← hxb] at HD hen
  have HXB := Lib.hid hxb
  clear hxb
  go_enter Try.func50, Try.ntmps50
  go_upto_region 1 with fail
  rw [HW.out, ← HXB.out]
  go_wp2_with fail
  refine HT.out.mono ?_
  rintro e w3 ⟨he, h3, hT3⟩
  obtain rfl : e = .returned (.tuple #[]) := he
  have HDS := Lib.hid (HD.out w3 h3 hT3)
  have x0 := HDS.out.xc 0
  have x1 := HDS.out.xc 1
  have x2 := HDS.out.xc 2
  have x3 := HDS.out.xc 3
  simp only [List.getElem?_cons_zero, List.getElem?_cons_succ] at x0 x1 x2 x3
  have g0 := HDS.out.gc
  clear HD HT h3 hT3
  have rt := HDS.out.rg.at (j := jt) (by omega)
  have rf := HDS.out.rg.free jt
  have HP := Lib.hid (HDS.out.put jt HNB.out).1
  go_wp2
  go_end0
  exact ⟨by rw [HTF.out]; rfl, HP.out⟩
set_option maxRecDepth 100000 in
set_option maxHeartbeats 4000000 in
theorem insI_copy (call : Nat → List Int → RunS → Int × RunS) {num tq : Int} {ac ab ao i0 : Nat} (hi0 : i0 < n) (c0 : w0.cell? ⟨ab, ao, none⟩ = some (.int .i64 (i0 : Int))) (hnl : n ≤ 300) (hN : N ≤ 60000) (h : MSt w0 ua nu uc rb N D sv tv w s) (hr : RgSt w0.heap.size gb n D w regs) (hs : Good s) (hf : s.fin = none) (htk : s.take.fin = none) (htq : 0 ≤ tq ∧ tq < n) :
    Calls Try.prog 50 #[.pointer (some ⟨rb, 0, none⟩), .agg #[.int .i64 2, .int .i64 tq, .slice (some ⟨ab, ao, none⟩) 1 ac, .int .i64 num], .slice (some ⟨gb, 0, none⟩) n n] w fun e w' => e = outE (insRun doD call ⟨2, tq, [(i0 : Int)], num⟩ regs s.take).2.fin (.tuple #[]) ∧ IPost w0 ua nu uc rb N gb n D w (insRun doD call ⟨2, tq, [(i0 : Int)], num⟩ regs s.take) w' := by
  have hI : insRun doD call ⟨2, tq, [(i0 : Int)], num⟩ regs s.take = insDo doD call ⟨2, tq, [(i0 : Int)], num⟩ (atI regs (i0 : Int)) (0) regs s.take := insRun_of rfl rfl
  rw [hI]
  clear hI
  obtain ⟨jt, rfl⟩ : ∃ j : Nat, tq = (j : Int) := ⟨tq.toNat, by omega⟩
  have hab := hr.byts.at (i0 : Int)
  have hd : doD 2 (atI regs (i0 : Int)) 0 = (atI regs (i0 : Int), 0) := by rw [doD, byt_in hab, byt_in byt_zero]; rfl
  rw [insDo_pure (by show 1 ≤ (2 : Int) ∧ (2 : Int) ≤ 10; omega) hd]
  have HNB := Lib.hid hab
  have jl : (jt : Int) < (n : Int) := htq.2
  clear hd hab htq
  have hmf : ∀ (fn : Fn) (first cap : Array Value) (w : World), (Instr.makeFunc fn first cap).run Try.prog w = .ok (.func fn first cap) w := fun _ _ _ _ => rfl
  have hba := (two_blocks w (.cells #[.int .i64 2, .int .i64 (jt : Int), .slice (some ⟨ab, ao, none⟩) 1 ac, .int .i64 num] 83) (.cells #[.slice (some ⟨gb, 0, none⟩) n n] 26)).2.2.2
  have hrlt := hr.lt
  have hbs := h.base.size
  generalize hW : ((w.alloc (.cells #[.int .i64 2, .int .i64 (jt : Int), .slice (some ⟨ab, ao, none⟩) 1 ac, .int .i64 num] 83)).alloc (.cells #[.slice (some ⟨gb, 0, none⟩) n n] 26)) = W2 at hba
  have HT := Lib.hid (tickI_any (h.later hba) hN hf)
  rw [htk] at HT
  have HW := Lib.hid hW
  have HTF := Lib.hid htk
  have HD := Lib.hid (fun w3 (h3 : MSt w0 ua nu uc rb N D sv tv w3 s.take) (hT : Step D W2 D w3) => show DSt w0 ua nu uc rb N gb n w.heap.size [.int .i64 2, .int .i64 (jt : Int), .slice (some ⟨ab, ao, none⟩) 1 ac, .int .i64 num] D D sv tv w regs s.take w3 from DSt.start h hr _ hW h3 hT)
  have hen : ∀ v W, (callFunc 69 (#[v] ++ #[.pointer (some ⟨w.heap.size + 1, 0, none⟩), .pointer (some ⟨w.heap.size, 0, none⟩)])).run Try.prog W = .ok (.enter 69 (#[v] ++ #[.pointer (some ⟨w.heap.size + 1, 0, none⟩), .pointer (some ⟨w.heap.size, 0, none⟩)])) W := fun v W => by kernel_rfl
  clear h hr hf hba hW htk hs
  obtain ⟨xb, hxb⟩ : ∃ b, b = w.heap.size := ⟨_, rfl⟩
  rw [← hxb] at HD hen
  have HXB := Lib.hid hxb
  clear hxb
  go_enter Try.func50, Try.ntmps50
  go_upto_region 1 with fail
  rw [HW.out, ← HXB.out]
  go_wp2_with fail
  refine HT.out.mono ?_
  rintro e w3 ⟨he, h3, hT3⟩
  obtain rfl : e = .returned (.tuple #[]) := he
  have HDS := Lib.hid (HD.out w3 h3 hT3)
  have x0 := HDS.out.xc 0
  have x1 := HDS.out.xc 1
  have x2 := HDS.out.xc 2
  have x3 := HDS.out.xc 3
  simp only [List.getElem?_cons_zero, List.getElem?_cons_succ] at x0 x1 x2 x3
  have g0 := HDS.out.gc
  clear HD HT h3 hT3
  have q0 := cell_later HDS.out.st.base c0
  have r0 := HDS.out.rg.at hi0
  have HA0 := Lib.hid (fun q => show Calls Try.prog 69 #[.int .i64 0, .pointer (some ⟨xb + 1, 0, none⟩), .pointer (some ⟨xb, 0, none⟩)] (w3.drewN q) fun e u => e = .returned (.int .i64 (atI regs (i0 : Int))) ∧ ∃ p, u = (w3.drewN q).drewN p from argI_any (k := 0) (L := 1) (ac := ac) (w3.drewN q) (cell_later (below_drewN (Below.refl _ _) q) g0) (cell_later (below_drewN (Below.refl _ _) q) x2) (by omega) (by omega) (cell_later (below_drewN (Below.refl _ _) q) q0) hi0 hnl (cell_later (below_drewN (Below.refl _ _) q) r0))
  have HPT := Lib.hid (fun q => (HDS.out.drewN q).put jt HNB.out)
  have rt := HDS.out.rg.at (j := jt) (by omega)
  have rf := HDS.out.rg.free jt
  go_upto_region 25 with fail
  go_region_held3 (fun W => W.cell? ⟨xb + 1, 0, none⟩ = some (.slice (some ⟨gb, 0, none⟩) n n) ∧ W.cell? ⟨xb, 1, none⟩ = some (.int .i64 (jt : Int))) (first | exact ⟨g0, x1⟩ | exact ⟨(HDS.out.drewN _).gc, (HDS.out.drewN _).xc 1⟩ | exact ⟨(HPT.out _).2.1, (HPT.out _).2.2.2⟩) (first | (go_at_call 69; refine (HA0.out 1).mono ?_; rintro e w4 ⟨rfl, q, rfl⟩))
  all_goals
    have HP := Lib.hid (HPT.out (1 + q)).1
    go_wp2
    go_end0
    exact ⟨by rw [HTF.out]; rfl, HP.out⟩
set_option maxRecDepth 100000 in
set_option maxHeartbeats 4000000 in
theorem insI_not (call : Nat → List Int → RunS → Int × RunS) {num tq : Int} {ac ab ao i0 : Nat} (hi0 : i0 < n) (c0 : w0.cell? ⟨ab, ao, none⟩ = some (.int .i64 (i0 : Int))) (hnl : n ≤ 300) (hN : N ≤ 60000) (h : MSt w0 ua nu uc rb N D sv tv w s) (hr : RgSt w0.heap.size gb n D w regs) (hs : Good s) (hf : s.fin = none) (htk : s.take.fin = none) (htq : 0 ≤ tq ∧ tq < n) :
    Calls Try.prog 50 #[.pointer (some ⟨rb, 0, none⟩), .agg #[.int .i64 10, .int .i64 tq, .slice (some ⟨ab, ao, none⟩) 1 ac, .int .i64 num], .slice (some ⟨gb, 0, none⟩) n n] w fun e w' => e = outE (insRun doD call ⟨10, tq, [(i0 : Int)], num⟩ regs s.take).2.fin (.tuple #[]) ∧ IPost w0 ua nu uc rb N gb n D w (insRun doD call ⟨10, tq, [(i0 : Int)], num⟩ regs s.take) w' := by
  have hI : insRun doD call ⟨10, tq, [(i0 : Int)], num⟩ regs s.take = insDo doD call ⟨10, tq, [(i0 : Int)], num⟩ (atI regs (i0 : Int)) (0) regs s.take := insRun_of rfl rfl
  rw [hI]
  clear hI
  obtain ⟨jt, rfl⟩ : ∃ j : Nat, tq = (j : Int) := ⟨tq.toNat, by omega⟩
  have hab := hr.byts.at (i0 : Int)
  have hd : doD 10 (atI regs (i0 : Int)) 0 = (truthI (atI regs (i0 : Int) == 0), 0) := by rw [doD, byt_in hab, byt_in byt_zero]; rfl
  rw [insDo_pure (by show 1 ≤ (10 : Int) ∧ (10 : Int) ≤ 10; omega) hd]
  have HNB := Lib.hid (show Byt (truthI (atI regs (i0 : Int) == 0)) from by cases (atI regs (i0 : Int) == 0) <;> simp [truthI, Byt])
  have HAR := Lib.hid (fun W => show Calls Try.prog 71 #[.int .i64 11, .int .i64 (atI regs (i0 : Int)), .int .i64 0] W fun e w' => e = .returned (.tuple #[.int .i64 (truthI (atI regs (i0 : Int) == 0)), .bool true]) ∧ w' = W from arith_any 11 _ 0 hab (by omega) W)
  have jl : (jt : Int) < (n : Int) := htq.2
  clear hd hab htq
  have hmf : ∀ (fn : Fn) (first cap : Array Value) (w : World), (Instr.makeFunc fn first cap).run Try.prog w = .ok (.func fn first cap) w := fun _ _ _ _ => rfl
  have hba := (two_blocks w (.cells #[.int .i64 10, .int .i64 (jt : Int), .slice (some ⟨ab, ao, none⟩) 1 ac, .int .i64 num] 83) (.cells #[.slice (some ⟨gb, 0, none⟩) n n] 26)).2.2.2
  have hrlt := hr.lt
  have hbs := h.base.size
  generalize hW : ((w.alloc (.cells #[.int .i64 10, .int .i64 (jt : Int), .slice (some ⟨ab, ao, none⟩) 1 ac, .int .i64 num] 83)).alloc (.cells #[.slice (some ⟨gb, 0, none⟩) n n] 26)) = W2 at hba
  have HT := Lib.hid (tickI_any (h.later hba) hN hf)
  rw [htk] at HT
  have HW := Lib.hid hW
  have HTF := Lib.hid htk
  have HD := Lib.hid (fun w3 (h3 : MSt w0 ua nu uc rb N D sv tv w3 s.take) (hT : Step D W2 D w3) => show DSt w0 ua nu uc rb N gb n w.heap.size [.int .i64 10, .int .i64 (jt : Int), .slice (some ⟨ab, ao, none⟩) 1 ac, .int .i64 num] D D sv tv w regs s.take w3 from DSt.start h hr _ hW h3 hT)
  have hen : ∀ v W, (callFunc 69 (#[v] ++ #[.pointer (some ⟨w.heap.size + 1, 0, none⟩), .pointer (some ⟨w.heap.size, 0, none⟩)])).run Try.prog W = .ok (.enter 69 (#[v] ++ #[.pointer (some ⟨w.heap.size + 1, 0, none⟩), .pointer (some ⟨w.heap.size, 0, none⟩)])) W := fun v W => by kernel_rfl
  clear h hr hf hba hW htk hs
  obtain ⟨xb, hxb⟩ : ∃ b, b = w.heap.size := ⟨_, rfl⟩
  rw [← hxb] at HD hen
  have HXB := Lib.hid hxb
  clear hxb
  go_enter Try.func50, Try.ntmps50
  go_upto_region 1 with fail
  rw [HW.out, ← HXB.out]
  go_wp2_with fail
  refine HT.out.mono ?_
  rintro e w3 ⟨he, h3, hT3⟩
  obtain rfl : e = .returned (.tuple #[]) := he
  have HDS := Lib.hid (HD.out w3 h3 hT3)
  have x0 := HDS.out.xc 0
  have x1 := HDS.out.xc 1
  have x2 := HDS.out.xc 2
  have x3 := HDS.out.xc 3
  simp only [List.getElem?_cons_zero, List.getElem?_cons_succ] at x0 x1 x2 x3
  have g0 := HDS.out.gc
  clear HD HT h3 hT3
  have q0 := cell_later HDS.out.st.base c0
  have r0 := HDS.out.rg.at hi0
  have HA0 := Lib.hid (fun q => show Calls Try.prog 69 #[.int .i64 0, .pointer (some ⟨xb + 1, 0, none⟩), .pointer (some ⟨xb, 0, none⟩)] (w3.drewN q) fun e u => e = .returned (.int .i64 (atI regs (i0 : Int))) ∧ ∃ p, u = (w3.drewN q).drewN p from argI_any (k := 0) (L := 1) (ac := ac) (w3.drewN q) (cell_later (below_drewN (Below.refl _ _) q) g0) (cell_later (below_drewN (Below.refl _ _) q) x2) (by omega) (by omega) (cell_later (below_drewN (Below.refl _ _) q) q0) hi0 hnl (cell_later (below_drewN (Below.refl _ _) q) r0))
  have HPT := Lib.hid (fun q => (HDS.out.drewN q).put jt HNB.out)
  have rt := HDS.out.rg.at (j := jt) (by omega)
  have rf := HDS.out.rg.free jt
  go_upto_region 27 with fail
  go_region_held3 (fun W => W.cell? ⟨xb + 1, 0, none⟩ = some (.slice (some ⟨gb, 0, none⟩) n n) ∧ W.cell? ⟨xb, 1, none⟩ = some (.int .i64 (jt : Int))) (first | exact ⟨g0, x1⟩ | exact ⟨(HDS.out.drewN _).gc, (HDS.out.drewN _).xc 1⟩ | exact ⟨(HPT.out _).2.1, (HPT.out _).2.2.2⟩) (first | (go_at_call 69; refine (HA0.out 1).mono ?_; rintro e w4 ⟨rfl, q, rfl⟩) | (go_at_call 71; refine (HAR.out _).mono ?_; rintro e w5 ⟨rfl, rfl⟩))
  all_goals
    have HP := Lib.hid (HPT.out (1 + q)).1
    go_wp2
    go_end0
    exact ⟨by rw [HTF.out]; rfl, HP.out⟩
set_option maxRecDepth 100000 in
set_option maxHeartbeats 4000000 in
theorem insI_twono (call : Nat → List Int → RunS → Int × RunS) {op num tq : Int} {ac ab ao i0 i1 : Nat} (hi0 : i0 < n) (c0 : w0.cell? ⟨ab, ao, none⟩ = some (.int .i64 (i0 : Int))) (hi1 : i1 < n) (c1 : w0.cell? ⟨ab, ao + 1, none⟩ = some (.int .i64 (i1 : Int))) (hnl : n ≤ 300) (hN : N ≤ 60000) (h : MSt w0 ua nu uc rb N D sv tv w s) (hr : RgSt w0.heap.size gb n D w regs) (hs : Good s) (hf : s.fin = none) (htk : s.take.fin = none) (hop : 3 ≤ op ∧ op ≤ 9) (htq : 0 ≤ tq ∧ tq < n) (hv : arithD op (atI regs (i0 : Int)) (atI regs (i1 : Int)) = none) :
    Calls Try.prog 50 #[.pointer (some ⟨rb, 0, none⟩), .agg #[.int .i64 op, .int .i64 tq, .slice (some ⟨ab, ao, none⟩) 2 ac, .int .i64 num], .slice (some ⟨gb, 0, none⟩) n n] w fun e w' => e = outE (insRun doD call ⟨op, tq, [(i0 : Int), (i1 : Int)], num⟩ regs s.take).2.fin (.tuple #[]) ∧ IPost w0 ua nu uc rb N gb n D w (insRun doD call ⟨op, tq, [(i0 : Int), (i1 : Int)], num⟩ regs s.take) w' := by
  have hI : insRun doD call ⟨op, tq, [(i0 : Int), (i1 : Int)], num⟩ regs s.take = insDo doD call ⟨op, tq, [(i0 : Int), (i1 : Int)], num⟩ (atI regs (i0 : Int)) (atI regs (i1 : Int)) regs s.take := insRun_of rfl rfl
  rw [hI]
  clear hI
  obtain ⟨jt, rfl⟩ : ∃ j : Nat, tq = (j : Int) := ⟨tq.toNat, by omega⟩
  have hab := hr.byts.at (i0 : Int)
  have hbb := hr.byts.at (i1 : Int)
  have hd : doD op (atI regs (i0 : Int)) (atI regs (i1 : Int)) = (0, 1) := by
    rw [doD, byt_in hab, byt_in hbb]
    show (if op = 1 ∨ op = 2 then _ else _) = _
    rw [if_neg (by omega), if_neg (by omega), if_pos (show inE 3 op 9 = true by simp [inE, hop.1, hop.2]), hv]; rfl
  rw [insDo_ends (by show 1 ≤ op ∧ op ≤ 10; omega) hd (by omega)]
  have HAR := Lib.hid (fun W => show Calls Try.prog 71 #[.int .i64 op, .int .i64 (atI regs (i0 : Int)), .int .i64 (atI regs (i1 : Int))] W fun e w' => e = .returned (.tuple #[.int .i64 0, .bool false]) ∧ w' = W from by
    have h1 := arith_any op _ _ hab hbb W
    rw [hv] at h1
    exact h1)
  have o1 : (op == 1) = false := by rw [beq_eq_false_iff_ne]; omega
  have o2 : (op == 2) = false := by rw [beq_eq_false_iff_ne]; omega
  have o3 : (op == 10) = false := by rw [beq_eq_false_iff_ne]; omega
  have o4 : (op == 11) = false := by rw [beq_eq_false_iff_ne]; omega
  have o5 : (op == 12) = false := by rw [beq_eq_false_iff_ne]; omega
  have o6 : (op == 13) = false := by rw [beq_eq_false_iff_ne]; omega
  have o7 : (op == 14) = false := by rw [beq_eq_false_iff_ne]; omega
  have jl : (jt : Int) < (n : Int) := htq.2
  clear hd hab hbb htq hv hop
  have hmf : ∀ (fn : Fn) (first cap : Array Value) (w : World), (Instr.makeFunc fn first cap).run Try.prog w = .ok (.func fn first cap) w := fun _ _ _ _ => rfl
  have hba := (two_blocks w (.cells #[.int .i64 op, .int .i64 (jt : Int), .slice (some ⟨ab, ao, none⟩) 2 ac, .int .i64 num] 83) (.cells #[.slice (some ⟨gb, 0, none⟩) n n] 26)).2.2.2
  have hrlt := hr.lt
  have hbs := h.base.size
  generalize hW : ((w.alloc (.cells #[.int .i64 op, .int .i64 (jt : Int), .slice (some ⟨ab, ao, none⟩) 2 ac, .int .i64 num] 83)).alloc (.cells #[.slice (some ⟨gb, 0, none⟩) n n] 26)) = W2 at hba
  have HT := Lib.hid (tickI_any (h.later hba) hN hf)
  rw [htk] at HT
  have HW := Lib.hid hW
  have HTF := Lib.hid htk
  have HD := Lib.hid (fun w3 (h3 : MSt w0 ua nu uc rb N D sv tv w3 s.take) (hT : Step D W2 D w3) => show DSt w0 ua nu uc rb N gb n w.heap.size [.int .i64 op, .int .i64 (jt : Int), .slice (some ⟨ab, ao, none⟩) 2 ac, .int .i64 num] D D sv tv w regs s.take w3 from DSt.start h hr _ hW h3 hT)
  have hen : ∀ v W, (callFunc 69 (#[v] ++ #[.pointer (some ⟨w.heap.size + 1, 0, none⟩), .pointer (some ⟨w.heap.size, 0, none⟩)])).run Try.prog W = .ok (.enter 69 (#[v] ++ #[.pointer (some ⟨w.heap.size + 1, 0, none⟩), .pointer (some ⟨w.heap.size, 0, none⟩)])) W := fun v W => by kernel_rfl
  clear h hr hf hba hW htk hs
  obtain ⟨xb, hxb⟩ : ∃ b, b = w.heap.size := ⟨_, rfl⟩
  rw [← hxb] at HD hen
  have HXB := Lib.hid hxb
  clear hxb
  go_enter Try.func50, Try.ntmps50
  go_upto_region 1 with fail
  rw [HW.out, ← HXB.out]
  go_wp2_with fail
  refine HT.out.mono ?_
  rintro e w3 ⟨he, h3, hT3⟩
  obtain rfl : e = .returned (.tuple #[]) := he
  have HDS := Lib.hid (HD.out w3 h3 hT3)
  have x0 := HDS.out.xc 0
  have x1 := HDS.out.xc 1
  have x2 := HDS.out.xc 2
  have x3 := HDS.out.xc 3
  simp only [List.getElem?_cons_zero, List.getElem?_cons_succ] at x0 x1 x2 x3
  have g0 := HDS.out.gc
  clear HD HT h3 hT3
  have q0 := cell_later HDS.out.st.base c0
  have r0 := HDS.out.rg.at hi0
  have HA0 := Lib.hid (fun q => show Calls Try.prog 69 #[.int .i64 0, .pointer (some ⟨xb + 1, 0, none⟩), .pointer (some ⟨xb, 0, none⟩)] (w3.drewN q) fun e u => e = .returned (.int .i64 (atI regs (i0 : Int))) ∧ ∃ p, u = (w3.drewN q).drewN p from argI_any (k := 0) (L := 2) (ac := ac) (w3.drewN q) (cell_later (below_drewN (Below.refl _ _) q) g0) (cell_later (below_drewN (Below.refl _ _) q) x2) (by omega) (by omega) (cell_later (below_drewN (Below.refl _ _) q) q0) hi0 hnl (cell_later (below_drewN (Below.refl _ _) q) r0))
  have q1 := cell_later HDS.out.st.base c1
  have r1 := HDS.out.rg.at hi1
  have HA1 := Lib.hid (fun q => show Calls Try.prog 69 #[.int .i64 1, .pointer (some ⟨xb + 1, 0, none⟩), .pointer (some ⟨xb, 0, none⟩)] (w3.drewN q) fun e u => e = .returned (.int .i64 (atI regs (i1 : Int))) ∧ ∃ p, u = (w3.drewN q).drewN p from argI_any (k := 1) (L := 2) (ac := ac) (w3.drewN q) (cell_later (below_drewN (Below.refl _ _) q) g0) (cell_later (below_drewN (Below.refl _ _) q) x2) (by omega) (by omega) (cell_later (below_drewN (Below.refl _ _) q) q1) hi1 hnl (cell_later (below_drewN (Below.refl _ _) q) r1))
  go_upto_region 4 with fail
  go_quiet (first | (go_at_call 69; first | with_reducible refine Calls.quiet_of (HA0.out _) | with_reducible refine Calls.quiet_of (HA1.out _)) | (go_at_call 71; refine Calls.quiet_of_same (HAR.out _)))
  have HP := Lib.hid ((HDS.out.drewN nq).ends 1)
  have HFE := Lib.hid (show (s.take.stop 1).fin = some 1 by unfold RunS.stop; rw [HTF.out])
  go_wp2_with fail
  refine (stopI_any 1 _).mono ?_
  rintro e w5 ⟨rfl, rfl⟩
  exact ⟨rfl, by rw [HFE.out]; rfl, HP.out⟩
set_option maxRecDepth 100000 in
set_option maxHeartbeats 4000000 in
theorem insI_twook (call : Nat → List Int → RunS → Int × RunS) {op num tq : Int} {ac ab ao i0 i1 : Nat} (hi0 : i0 < n) (c0 : w0.cell? ⟨ab, ao, none⟩ = some (.int .i64 (i0 : Int))) (hi1 : i1 < n) (c1 : w0.cell? ⟨ab, ao + 1, none⟩ = some (.int .i64 (i1 : Int))) (hnl : n ≤ 300) (hN : N ≤ 60000) (h : MSt w0 ua nu uc rb N D sv tv w s) (hr : RgSt w0.heap.size gb n D w regs) (hs : Good s) (hf : s.fin = none) (htk : s.take.fin = none) (hop : 3 ≤ op ∧ op ≤ 9) (htq : 0 ≤ tq ∧ tq < n) {v : Int} (hv : arithD op (atI regs (i0 : Int)) (atI regs (i1 : Int)) = some v) :
    Calls Try.prog 50 #[.pointer (some ⟨rb, 0, none⟩), .agg #[.int .i64 op, .int .i64 tq, .slice (some ⟨ab, ao, none⟩) 2 ac, .int .i64 num], .slice (some ⟨gb, 0, none⟩) n n] w fun e w' => e = outE (insRun doD call ⟨op, tq, [(i0 : Int), (i1 : Int)], num⟩ regs s.take).2.fin (.tuple #[]) ∧ IPost w0 ua nu uc rb N gb n D w (insRun doD call ⟨op, tq, [(i0 : Int), (i1 : Int)], num⟩ regs s.take) w' := by
  have hI : insRun doD call ⟨op, tq, [(i0 : Int), (i1 : Int)], num⟩ regs s.take = insDo doD call ⟨op, tq, [(i0 : Int), (i1 : Int)], num⟩ (atI regs (i0 : Int)) (atI regs (i1 : Int)) regs s.take := insRun_of rfl rfl
  rw [hI]
  clear hI
  obtain ⟨jt, rfl⟩ : ∃ j : Nat, tq = (j : Int) := ⟨tq.toNat, by omega⟩
  have hab := hr.byts.at (i0 : Int)
  have hbb := hr.byts.at (i1 : Int)
  have hd : doD op (atI regs (i0 : Int)) (atI regs (i1 : Int)) = (v, 0) := by
    rw [doD, byt_in hab, byt_in hbb]
    show (if op = 1 ∨ op = 2 then _ else _) = _
    rw [if_neg (by omega), if_neg (by omega), if_pos (show inE 3 op 9 = true by simp [inE, hop.1, hop.2]), hv]; rfl
  rw [insDo_pure (by show 1 ≤ op ∧ op ≤ 10; omega) hd]
  have HNB := Lib.hid (show Byt v from arithD_range hab hbb hv)
  have HAR := Lib.hid (fun W => show Calls Try.prog 71 #[.int .i64 op, .int .i64 (atI regs (i0 : Int)), .int .i64 (atI regs (i1 : Int))] W fun e w' => e = .returned (.tuple #[.int .i64 v, .bool true]) ∧ w' = W from by
    have h1 := arith_any op _ _ hab hbb W
    rw [hv] at h1
    exact h1)
  have o1 : (op == 1) = false := by rw [beq_eq_false_iff_ne]; omega
  have o2 : (op == 2) = false := by rw [beq_eq_false_iff_ne]; omega
  have o3 : (op == 10) = false := by rw [beq_eq_false_iff_ne]; omega
  have o4 : (op == 11) = false := by rw [beq_eq_false_iff_ne]; omega
  have o5 : (op == 12) = false := by rw [beq_eq_false_iff_ne]; omega
  have o6 : (op == 13) = false := by rw [beq_eq_false_iff_ne]; omega
  have o7 : (op == 14) = false := by rw [beq_eq_false_iff_ne]; omega
  have jl : (jt : Int) < (n : Int) := htq.2
  clear hd hab hbb htq hv hop
  have hmf : ∀ (fn : Fn) (first cap : Array Value) (w : World), (Instr.makeFunc fn first cap).run Try.prog w = .ok (.func fn first cap) w := fun _ _ _ _ => rfl
  have hba := (two_blocks w (.cells #[.int .i64 op, .int .i64 (jt : Int), .slice (some ⟨ab, ao, none⟩) 2 ac, .int .i64 num] 83) (.cells #[.slice (some ⟨gb, 0, none⟩) n n] 26)).2.2.2
  have hrlt := hr.lt
  have hbs := h.base.size
  generalize hW : ((w.alloc (.cells #[.int .i64 op, .int .i64 (jt : Int), .slice (some ⟨ab, ao, none⟩) 2 ac, .int .i64 num] 83)).alloc (.cells #[.slice (some ⟨gb, 0, none⟩) n n] 26)) = W2 at hba
  have HT := Lib.hid (tickI_any (h.later hba) hN hf)
  rw [htk] at HT
  have HW := Lib.hid hW
  have HTF := Lib.hid htk
  have HD := Lib.hid (fun w3 (h3 : MSt w0 ua nu uc rb N D sv tv w3 s.take) (hT : Step D W2 D w3) => show DSt w0 ua nu uc rb N gb n w.heap.size [.int .i64 op, .int .i64 (jt : Int), .slice (some ⟨ab, ao, none⟩) 2 ac, .int .i64 num] D D sv tv w regs s.take w3 from DSt.start h hr _ hW h3 hT)
  have hen : ∀ v W, (callFunc 69 (#[v] ++ #[.pointer (some ⟨w.heap.size + 1, 0, none⟩), .pointer (some ⟨w.heap.size, 0, none⟩)])).run Try.prog W = .ok (.enter 69 (#[v] ++ #[.pointer (some ⟨w.heap.size + 1, 0, none⟩), .pointer (some ⟨w.heap.size, 0, none⟩)])) W := fun v W => by kernel_rfl
  clear h hr hf hba hW htk hs
  obtain ⟨xb, hxb⟩ : ∃ b, b = w.heap.size := ⟨_, rfl⟩
  rw [← hxb] at HD hen
  have HXB := Lib.hid hxb
  clear hxb
  go_enter Try.func50, Try.ntmps50
  go_upto_region 1 with fail
  rw [HW.out, ← HXB.out]
  go_wp2_with fail
  refine HT.out.mono ?_
  rintro e w3 ⟨he, h3, hT3⟩
  obtain rfl : e = .returned (.tuple #[]) := he
  have HDS := Lib.hid (HD.out w3 h3 hT3)
  have x0 := HDS.out.xc 0
  have x1 := HDS.out.xc 1
  have x2 := HDS.out.xc 2
  have x3 := HDS.out.xc 3
  simp only [List.getElem?_cons_zero, List.getElem?_cons_succ] at x0 x1 x2 x3
  have g0 := HDS.out.gc
  clear HD HT h3 hT3
  have q0 := cell_later HDS.out.st.base c0
  have r0 := HDS.out.rg.at hi0
  have HA0 := Lib.hid (fun q => show Calls Try.prog 69 #[.int .i64 0, .pointer (some ⟨xb + 1, 0, none⟩), .pointer (some ⟨xb, 0, none⟩)] (w3.drewN q) fun e u => e = .returned (.int .i64 (atI regs (i0 : Int))) ∧ ∃ p, u = (w3.drewN q).drewN p from argI_any (k := 0) (L := 2) (ac := ac) (w3.drewN q) (cell_later (below_drewN (Below.refl _ _) q) g0) (cell_later (below_drewN (Below.refl _ _) q) x2) (by omega) (by omega) (cell_later (below_drewN (Below.refl _ _) q) q0) hi0 hnl (cell_later (below_drewN (Below.refl _ _) q) r0))
  have q1 := cell_later HDS.out.st.base c1
  have r1 := HDS.out.rg.at hi1
  have HA1 := Lib.hid (fun q => show Calls Try.prog 69 #[.int .i64 1, .pointer (some ⟨xb + 1, 0, none⟩), .pointer (some ⟨xb, 0, none⟩)] (w3.drewN q) fun e u => e = .returned (.int .i64 (atI regs (i1 : Int))) ∧ ∃ p, u = (w3.drewN q).drewN p from argI_any (k := 1) (L := 2) (ac := ac) (w3.drewN q) (cell_later (below_drewN (Below.refl _ _) q) g0) (cell_later (below_drewN (Below.refl _ _) q) x2) (by omega) (by omega) (cell_later (below_drewN (Below.refl _ _) q) q1) hi1 hnl (cell_later (below_drewN (Below.refl _ _) q) r1))
  have HPT := Lib.hid (fun q => (HDS.out.drewN q).put jt HNB.out)
  have rt := HDS.out.rg.at (j := jt) (by omega)
  have rf := HDS.out.rg.free jt
  go_upto_region 4 with fail
  go_quiet (first | (go_at_call 69; first | with_reducible refine Calls.quiet_of (HA0.out _) | with_reducible refine Calls.quiet_of (HA1.out _)) | (go_at_call 71; refine Calls.quiet_of_same (HAR.out _)))
  have HP := Lib.hid (HPT.out nq).1
  go_wp2
  go_end0
  exact ⟨by rw [HTF.out]; rfl, HP.out⟩
set_option maxRecDepth 100000 in
set_option maxHeartbeats 4000000 in
theorem insI_at (call : Nat → List Int → RunS → Int × RunS) {num tq : Int} {ac ab ao i0 : Nat} (hi0 : i0 < n) (c0 : w0.cell? ⟨ab, ao, none⟩ = some (.int .i64 (i0 : Int))) (hnl : n ≤ 300) (hN : N ≤ 60000) (h : MSt w0 ua nu uc rb N D sv tv w s) (hr : RgSt w0.heap.size gb n D w regs) (hs : Good s) (hf : s.fin = none) (htk : s.take.fin = none) (htq : 0 ≤ tq ∧ tq < n) (hnear : atI regs (i0 : Int) < 16) :
    Calls Try.prog 50 #[.pointer (some ⟨rb, 0, none⟩), .agg #[.int .i64 11, .int .i64 tq, .slice (some ⟨ab, ao, none⟩) 1 ac, .int .i64 num], .slice (some ⟨gb, 0, none⟩) n n] w fun e w' => e = outE (insRun doD call ⟨11, tq, [(i0 : Int)], num⟩ regs s.take).2.fin (.tuple #[]) ∧ IPost w0 ua nu uc rb N gb n D w (insRun doD call ⟨11, tq, [(i0 : Int)], num⟩ regs s.take) w' := by
  have hI : insRun doD call ⟨11, tq, [(i0 : Int)], num⟩ regs s.take = insDo doD call ⟨11, tq, [(i0 : Int)], num⟩ (atI regs (i0 : Int)) (0) regs s.take := insRun_of rfl rfl
  rw [hI]
  clear hI
  rw [insDo_at rfl (by omega)]
  obtain ⟨jt, rfl⟩ : ∃ j : Nat, tq = (j : Int) := ⟨tq.toNat, by omega⟩
  have h0a := (hr.byts.at (i0 : Int)).1
  have jl : (jt : Int) < (n : Int) := htq.2
  obtain ⟨ja, hja⟩ : ∃ j : Nat, atI regs (i0 : Int) = (j : Int) := ⟨(atI regs (i0 : Int)).toNat, by omega⟩
  rw [hja] at hnear ⊢
  have hj16 : ja < 16 := by omega
  have HV := Lib.hid (Byts.at hs.take.all (ja : Int))
  have HJA := Lib.hid hja
  clear h0a hja htq hnear
  have hmf : ∀ (fn : Fn) (first cap : Array Value) (w : World), (Instr.makeFunc fn first cap).run Try.prog w = .ok (.func fn first cap) w := fun _ _ _ _ => rfl
  have hba := (two_blocks w (.cells #[.int .i64 11, .int .i64 (jt : Int), .slice (some ⟨ab, ao, none⟩) 1 ac, .int .i64 num] 83) (.cells #[.slice (some ⟨gb, 0, none⟩) n n] 26)).2.2.2
  have hrlt := hr.lt
  have hbs := h.base.size
  generalize hW : ((w.alloc (.cells #[.int .i64 11, .int .i64 (jt : Int), .slice (some ⟨ab, ao, none⟩) 1 ac, .int .i64 num] 83)).alloc (.cells #[.slice (some ⟨gb, 0, none⟩) n n] 26)) = W2 at hba
  have HT := Lib.hid (tickI_any (h.later hba) hN hf)
  rw [htk] at HT
  have HW := Lib.hid hW
  have HTF := Lib.hid htk
  have HD := Lib.hid (fun w3 (h3 : MSt w0 ua nu uc rb N D sv tv w3 s.take) (hT : Step D W2 D w3) => show DSt w0 ua nu uc rb N gb n w.heap.size [.int .i64 11, .int .i64 (jt : Int), .slice (some ⟨ab, ao, none⟩) 1 ac, .int .i64 num] D D sv tv w regs s.take w3 from DSt.start h hr _ hW h3 hT)
  have hen : ∀ v W, (callFunc 69 (#[v] ++ #[.pointer (some ⟨w.heap.size + 1, 0, none⟩), .pointer (some ⟨w.heap.size, 0, none⟩)])).run Try.prog W = .ok (.enter 69 (#[v] ++ #[.pointer (some ⟨w.heap.size + 1, 0, none⟩), .pointer (some ⟨w.heap.size, 0, none⟩)])) W := fun v W => by kernel_rfl
  clear h hr hf hba hW htk hs
  obtain ⟨xb, hxb⟩ : ∃ b, b = w.heap.size := ⟨_, rfl⟩
  rw [← hxb] at HD hen
  have HXB := Lib.hid hxb
  clear hxb
  go_enter Try.func50, Try.ntmps50
  go_upto_region 1 with fail
  rw [HW.out, ← HXB.out]
  go_wp2_with fail
  refine HT.out.mono ?_
  rintro e w3 ⟨he, h3, hT3⟩
  obtain rfl : e = .returned (.tuple #[]) := he
  have HDS := Lib.hid (HD.out w3 h3 hT3)
  have x0 := HDS.out.xc 0
  have x1 := HDS.out.xc 1
  have x2 := HDS.out.xc 2
  have x3 := HDS.out.xc 3
  simp only [List.getElem?_cons_zero, List.getElem?_cons_succ] at x0 x1 x2 x3
  have g0 := HDS.out.gc
  clear HD HT h3 hT3
  have q0 := cell_later HDS.out.st.base c0
  have r0 := HDS.out.rg.at hi0
  have HA0 := Lib.hid (fun q => show Calls Try.prog 69 #[.int .i64 0, .pointer (some ⟨xb + 1, 0, none⟩), .pointer (some ⟨xb, 0, none⟩)] (w3.drewN q) fun e u => e = .returned (.int .i64 (atI regs (i0 : Int))) ∧ ∃ p, u = (w3.drewN q).drewN p from argI_any (k := 0) (L := 1) (ac := ac) (w3.drewN q) (cell_later (below_drewN (Below.refl _ _) q) g0) (cell_later (below_drewN (Below.refl _ _) q) x2) (by omega) (by omega) (cell_later (below_drewN (Below.refl _ _) q) q0) hi0 hnl (cell_later (below_drewN (Below.refl _ _) q) r0))
  rw [HJA.out] at r0 HA0
  have rt := HDS.out.rg.at (j := jt) (by omega)
  have rf := HDS.out.rg.free jt
  have HPT := Lib.hid (fun q => (HDS.out.drewN q).put jt HV.out)
  have HCL := Lib.hid (fun W => cellI_any (rb := rb) hj16 W)
  have kc := HDS.out.st.cellAt hj16
  have HPM := Lib.hid (fun q => show ((w3.drewN q).setCell ⟨gb, jt, none⟩ (.int .i64 (atI s.take.cells (ja : Int)))).cell? ⟨rb, 4 + ja, none⟩ = some (.int .i64 (atI s.take.cells (ja : Int))) from by
    have h1 := (HPT.out q).1
    exact ((HDS.out.drewN q).st.stay (turned_store _ gb jt (.int .i64 (atI s.take.cells (ja : Int)))) (fun k hk => by subst hk; exact ⟨HDS.out.rg.out, HDS.out.rg.lt.1⟩)).cellAt hj16)
  go_upto_region 11 with fail
  go_region_held3 (fun W => (W.cell? ⟨xb + 1, 0, none⟩ = some (.slice (some ⟨gb, 0, none⟩) n n) ∧ W.cell? ⟨xb, 1, none⟩ = some (.int .i64 (jt : Int))) ∧ W.cell? ⟨rb, 4 + ja, none⟩ = some (.int .i64 (atI s.take.cells (ja : Int)))) (first | exact ⟨⟨g0, x1⟩, kc⟩ | exact ⟨⟨(HPT.out _).2.1, (HPT.out _).2.2.2⟩, HPM.out _⟩) (first | (go_at_call 69; refine (HA0.out 1).mono ?_; rintro e w4 ⟨rfl, q, rfl⟩) | (go_at_call 70; refine (HCL.out _).mono ?_; rintro e w5 ⟨rfl, rfl⟩))
  all_goals
    have HP := Lib.hid (HPT.out (1 + q)).1
    go_wp2
    go_end0
    exact ⟨by rw [HTF.out]; rfl, HP.out⟩
set_option maxRecDepth 100000 in
set_option maxHeartbeats 4000000 in
theorem insI_farat (call : Nat → List Int → RunS → Int × RunS) {num tq : Int} {ac ab ao i0 : Nat} (hi0 : i0 < n) (c0 : w0.cell? ⟨ab, ao, none⟩ = some (.int .i64 (i0 : Int))) (hnl : n ≤ 300) (hN : N ≤ 60000) (h : MSt w0 ua nu uc rb N D sv tv w s) (hr : RgSt w0.heap.size gb n D w regs) (hs : Good s) (hf : s.fin = none) (htk : s.take.fin = none) (hfar : 16 ≤ atI regs (i0 : Int)) :
    Calls Try.prog 50 #[.pointer (some ⟨rb, 0, none⟩), .agg #[.int .i64 11, .int .i64 tq, .slice (some ⟨ab, ao, none⟩) 1 ac, .int .i64 num], .slice (some ⟨gb, 0, none⟩) n n] w fun e w' => e = outE (insRun doD call ⟨11, tq, [(i0 : Int)], num⟩ regs s.take).2.fin (.tuple #[]) ∧ IPost w0 ua nu uc rb N gb n D w (insRun doD call ⟨11, tq, [(i0 : Int)], num⟩ regs s.take) w' := by
  have hI : insRun doD call ⟨11, tq, [(i0 : Int)], num⟩ regs s.take = insDo doD call ⟨11, tq, [(i0 : Int)], num⟩ (atI regs (i0 : Int)) (0) regs s.take := insRun_of rfl rfl
  rw [hI]
  clear hI
  rw [insDo_far (by exact .inl rfl) hfar]
  have hmf : ∀ (fn : Fn) (first cap : Array Value) (w : World), (Instr.makeFunc fn first cap).run Try.prog w = .ok (.func fn first cap) w := fun _ _ _ _ => rfl
  have hba := (two_blocks w (.cells #[.int .i64 11, .int .i64 tq, .slice (some ⟨ab, ao, none⟩) 1 ac, .int .i64 num] 83) (.cells #[.slice (some ⟨gb, 0, none⟩) n n] 26)).2.2.2
  have hrlt := hr.lt
  have hbs := h.base.size
  generalize hW : ((w.alloc (.cells #[.int .i64 11, .int .i64 tq, .slice (some ⟨ab, ao, none⟩) 1 ac, .int .i64 num] 83)).alloc (.cells #[.slice (some ⟨gb, 0, none⟩) n n] 26)) = W2 at hba
  have HT := Lib.hid (tickI_any (h.later hba) hN hf)
  rw [htk] at HT
  have HW := Lib.hid hW
  have HTF := Lib.hid htk
  have HD := Lib.hid (fun w3 (h3 : MSt w0 ua nu uc rb N D sv tv w3 s.take) (hT : Step D W2 D w3) => show DSt w0 ua nu uc rb N gb n w.heap.size [.int .i64 11, .int .i64 tq, .slice (some ⟨ab, ao, none⟩) 1 ac, .int .i64 num] D D sv tv w regs s.take w3 from DSt.start h hr _ hW h3 hT)
  have hen : ∀ v W, (callFunc 69 (#[v] ++ #[.pointer (some ⟨w.heap.size + 1, 0, none⟩), .pointer (some ⟨w.heap.size, 0, none⟩)])).run Try.prog W = .ok (.enter 69 (#[v] ++ #[.pointer (some ⟨w.heap.size + 1, 0, none⟩), .pointer (some ⟨w.heap.size, 0, none⟩)])) W := fun v W => by kernel_rfl
  clear h hr hf hba hW htk hs
  obtain ⟨xb, hxb⟩ : ∃ b, b = w.heap.size := ⟨_, rfl⟩
  rw [← hxb] at HD hen
  have HXB := Lib.hid hxb
  clear hxb
  go_enter Try.func50, Try.ntmps50
  go_upto_region 1 with fail
  rw [HW.out, ← HXB.out]
  go_wp2_with fail
  refine HT.out.mono ?_
  rintro e w3 ⟨he, h3, hT3⟩
  obtain rfl : e = .returned (.tuple #[]) := he
  have HDS := Lib.hid (HD.out w3 h3 hT3)
  have x0 := HDS.out.xc 0
  have x1 := HDS.out.xc 1
  have x2 := HDS.out.xc 2
  have x3 := HDS.out.xc 3
  simp only [List.getElem?_cons_zero, List.getElem?_cons_succ] at x0 x1 x2 x3
  have g0 := HDS.out.gc
  clear HD HT h3 hT3
  have q0 := cell_later HDS.out.st.base c0
  have r0 := HDS.out.rg.at hi0
  have HA0 := Lib.hid (fun q => show Calls Try.prog 69 #[.int .i64 0, .pointer (some ⟨xb + 1, 0, none⟩), .pointer (some ⟨xb, 0, none⟩)] (w3.drewN q) fun e u => e = .returned (.int .i64 (atI regs (i0 : Int))) ∧ ∃ p, u = (w3.drewN q).drewN p from argI_any (k := 0) (L := 1) (ac := ac) (w3.drewN q) (cell_later (below_drewN (Below.refl _ _) q) g0) (cell_later (below_drewN (Below.refl _ _) q) x2) (by omega) (by omega) (cell_later (below_drewN (Below.refl _ _) q) q0) hi0 hnl (cell_later (below_drewN (Below.refl _ _) q) r0))
  have HCL := Lib.hid (fun W => cellI_far (rb := rb) hfar W)
  have HPT := Lib.hid (fun q => (HDS.out.drewN q).ends 2)
  have HFE := Lib.hid (show (s.take.stop 2).fin = some 2 by unfold RunS.stop; rw [HTF.out])
  clear hfar
  go_upto_region 11 with fail
  refine wp_region_held_drew (S := (fun W => (W.cell? ⟨xb + 1, 0, none⟩ = some (.slice (some ⟨gb, 0, none⟩) n n) ∧ W.cell? ⟨xb, 1, none⟩ = some (.int .i64 tq)))) (by kernel_rfl) ⟨g0, x1⟩ (fun hHeld => ?_)
  refine wpAnyH_take (i := 0) (oi := ⟨some 44, _, _, _, _, _⟩) (v := ?_) rfl (by kernel_rfl) (by kernel_rfl) (by kernel_rfl) (fun _ _ _ h => h) (Or.inl ⟨by rfl, ?_⟩) (by assumption) ?_
  rotate_left
  · (intro w hSw; (try dsimp only at hSw); go_simp; all_goals (try with_reducible rfl))
  (try simp only [Act.put, List.setIfInBounds_toArray, List.set_cons_zero, List.set_cons_succ])
  refine wpAnyH_take (i := 1) (oi := ⟨some 45, _, _, _, _, _⟩) (v := ?_) rfl (by kernel_rfl) (by kernel_rfl) (by kernel_rfl) (fun _ _ _ h => h) (Or.inl ⟨by rfl, ?_⟩) (by assumption) ?_
  rotate_left
  · (intro w hSw; (try dsimp only at hSw); go_simp; all_goals (try with_reducible rfl))
  (try simp only [Act.put, List.setIfInBounds_toArray, List.set_cons_zero, List.set_cons_succ])
  refine wpAnyH_take (i := 2) (oi := ⟨some 46, _, _, _, _, _⟩) (v := ?_) rfl (by kernel_rfl) (by kernel_rfl) (by kernel_rfl) (fun _ _ _ h => h) (Or.inl ⟨by rfl, ?_⟩) (by assumption) ?_
  rotate_left
  · (intro w hSw; (try dsimp only at hSw); go_simp; all_goals (try with_reducible rfl))
  (try simp only [Act.put, List.setIfInBounds_toArray, List.set_cons_zero, List.set_cons_succ])
  refine wpAnyH_take (i := 3) (oi := ⟨some 47, _, _, _, _, _⟩) (v := ?_) rfl (by kernel_rfl) (by kernel_rfl) (by kernel_rfl) (fun _ _ _ h => h) (Or.inl ⟨by rfl, ?_⟩) (by assumption) ?_
  rotate_left
  · (intro w hSw; (try dsimp only at hSw); go_simp; all_goals (try with_reducible rfl))
  (try simp only [Act.put, List.setIfInBounds_toArray, List.set_cons_zero, List.set_cons_succ])
  refine wpAnyH_take (i := 4) (oi := ⟨some 48, _, _, _, _, _⟩) (v := ?_) rfl (by kernel_rfl) (by kernel_rfl) (by kernel_rfl) (fun _ _ _ h => h) (Or.inl ⟨by rfl, ?_⟩) (by assumption) ?_
  rotate_left
  · (intro w hSw; (try dsimp only at hSw); go_simp; all_goals (try with_reducible rfl))
  (try simp only [Act.put, List.setIfInBounds_toArray, List.set_cons_zero, List.set_cons_succ])
  refine wpAnyH_ready (rs := [5]) (by kernel_rfl) (by simp) ?_
  refine AllReadyH.cons (o := ⟨some 49, _, _, _, _, _⟩) rfl (fun K hK => ?_) AllReadyH.nil
  go_simp
  go_at_call 69; refine (HA0.out 1).mono ?_; rintro e w4 ⟨rfl, q, rfl⟩
  refine hK.out _ _ ⟨g0, x1⟩ (fun hHeld2 => ?_)
  clear hK K hHeld
  have hHeld := hHeld2
  clear hHeld2
  (try simp only [Act.put, List.setIfInBounds_toArray, List.set_cons_zero, List.set_cons_succ])
  refine wpAnyH_ready (rs := [6]) (by kernel_rfl) (by simp) ?_
  refine AllReadyH.cons (o := ⟨some 50, _, _, _, _, _⟩) rfl (fun K hK => ?_) AllReadyH.nil
  go_simp
  (go_at_call 70; refine (HCL.out _).mono ?_; rintro e w5 ⟨rfl, rfl⟩; exact ⟨rfl, by rw [HFE.out]; rfl, HPT.out (1 + q)⟩)
set_option maxRecDepth 100000 in
set_option maxHeartbeats 4000000 in
theorem insI_put (call : Nat → List Int → RunS → Int × RunS) {num tq : Int} {ac ab ao i0 i1 : Nat} (hi0 : i0 < n) (c0 : w0.cell? ⟨ab, ao, none⟩ = some (.int .i64 (i0 : Int))) (hi1 : i1 < n) (c1 : w0.cell? ⟨ab, ao + 1, none⟩ = some (.int .i64 (i1 : Int))) (hnl : n ≤ 300) (hN : N ≤ 60000) (h : MSt w0 ua nu uc rb N D sv tv w s) (hr : RgSt w0.heap.size gb n D w regs) (hs : Good s) (hf : s.fin = none) (htk : s.take.fin = none) (hnear : atI regs (i0 : Int) < 16) :
    Calls Try.prog 50 #[.pointer (some ⟨rb, 0, none⟩), .agg #[.int .i64 12, .int .i64 tq, .slice (some ⟨ab, ao, none⟩) 2 ac, .int .i64 num], .slice (some ⟨gb, 0, none⟩) n n] w fun e w' => e = outE (insRun doD call ⟨12, tq, [(i0 : Int), (i1 : Int)], num⟩ regs s.take).2.fin (.tuple #[]) ∧ IPost w0 ua nu uc rb N gb n D w (insRun doD call ⟨12, tq, [(i0 : Int), (i1 : Int)], num⟩ regs s.take) w' := by
  have hI : insRun doD call ⟨12, tq, [(i0 : Int), (i1 : Int)], num⟩ regs s.take = insDo doD call ⟨12, tq, [(i0 : Int), (i1 : Int)], num⟩ (atI regs (i0 : Int)) (atI regs (i1 : Int)) regs s.take := insRun_of rfl rfl
  rw [hI]
  clear hI
  rw [insDo_put rfl (by omega)]
  have h0a := (hr.byts.at (i0 : Int)).1
  obtain ⟨ja, hja⟩ : ∃ j : Nat, atI regs (i0 : Int) = (j : Int) := ⟨(atI regs (i0 : Int)).toNat, by omega⟩
  rw [hja] at hnear ⊢
  have hj16 : ja < 16 := by omega
  have HJA := Lib.hid hja
  clear h0a hja hnear
  have hmf : ∀ (fn : Fn) (first cap : Array Value) (w : World), (Instr.makeFunc fn first cap).run Try.prog w = .ok (.func fn first cap) w := fun _ _ _ _ => rfl
  have hba := (two_blocks w (.cells #[.int .i64 12, .int .i64 tq, .slice (some ⟨ab, ao, none⟩) 2 ac, .int .i64 num] 83) (.cells #[.slice (some ⟨gb, 0, none⟩) n n] 26)).2.2.2
  have hrlt := hr.lt
  have hbs := h.base.size
  generalize hW : ((w.alloc (.cells #[.int .i64 12, .int .i64 tq, .slice (some ⟨ab, ao, none⟩) 2 ac, .int .i64 num] 83)).alloc (.cells #[.slice (some ⟨gb, 0, none⟩) n n] 26)) = W2 at hba
  have HT := Lib.hid (tickI_any (h.later hba) hN hf)
  rw [htk] at HT
  have HW := Lib.hid hW
  have HTF := Lib.hid htk
  have HD := Lib.hid (fun w3 (h3 : MSt w0 ua nu uc rb N D sv tv w3 s.take) (hT : Step D W2 D w3) => show DSt w0 ua nu uc rb N gb n w.heap.size [.int .i64 12, .int .i64 tq, .slice (some ⟨ab, ao, none⟩) 2 ac, .int .i64 num] D D sv tv w regs s.take w3 from DSt.start h hr _ hW h3 hT)
  have hen : ∀ v W, (callFunc 69 (#[v] ++ #[.pointer (some ⟨w.heap.size + 1, 0, none⟩), .pointer (some ⟨w.heap.size, 0, none⟩)])).run Try.prog W = .ok (.enter 69 (#[v] ++ #[.pointer (some ⟨w.heap.size + 1, 0, none⟩), .pointer (some ⟨w.heap.size, 0, none⟩)])) W := fun v W => by kernel_rfl
  clear h hr hf hba hW htk hs
  obtain ⟨xb, hxb⟩ : ∃ b, b = w.heap.size := ⟨_, rfl⟩
  rw [← hxb] at HD hen
  have HXB := Lib.hid hxb
  clear hxb
  go_enter Try.func50, Try.ntmps50
  go_upto_region 1 with fail
  rw [HW.out, ← HXB.out]
  go_wp2_with fail
  refine HT.out.mono ?_
  rintro e w3 ⟨he, h3, hT3⟩
  obtain rfl : e = .returned (.tuple #[]) := he
  have HDS := Lib.hid (HD.out w3 h3 hT3)
  have x0 := HDS.out.xc 0
  have x1 := HDS.out.xc 1
  have x2 := HDS.out.xc 2
  have x3 := HDS.out.xc 3
  simp only [List.getElem?_cons_zero, List.getElem?_cons_succ] at x0 x1 x2 x3
  have g0 := HDS.out.gc
  clear HD HT h3 hT3
  have q0 := cell_later HDS.out.st.base c0
  have r0 := HDS.out.rg.at hi0
  have HA0 := Lib.hid (fun q => show Calls Try.prog 69 #[.int .i64 0, .pointer (some ⟨xb + 1, 0, none⟩), .pointer (some ⟨xb, 0, none⟩)] (w3.drewN q) fun e u => e = .returned (.int .i64 (atI regs (i0 : Int))) ∧ ∃ p, u = (w3.drewN q).drewN p from argI_any (k := 0) (L := 2) (ac := ac) (w3.drewN q) (cell_later (below_drewN (Below.refl _ _) q) g0) (cell_later (below_drewN (Below.refl _ _) q) x2) (by omega) (by omega) (cell_later (below_drewN (Below.refl _ _) q) q0) hi0 hnl (cell_later (below_drewN (Below.refl _ _) q) r0))
  have q1 := cell_later HDS.out.st.base c1
  have r1 := HDS.out.rg.at hi1
  have HA1 := Lib.hid (fun q => show Calls Try.prog 69 #[.int .i64 1, .pointer (some ⟨xb + 1, 0, none⟩), .pointer (some ⟨xb, 0, none⟩)] (w3.drewN q) fun e u => e = .returned (.int .i64 (atI regs (i1 : Int))) ∧ ∃ p, u = (w3.drewN q).drewN p from argI_any (k := 1) (L := 2) (ac := ac) (w3.drewN q) (cell_later (below_drewN (Below.refl _ _) q) g0) (cell_later (below_drewN (Below.refl _ _) q) x2) (by omega) (by omega) (cell_later (below_drewN (Below.refl _ _) q) q1) hi1 hnl (cell_later (below_drewN (Below.refl _ _) q) r1))
  rw [HJA.out] at r0 HA0
  have HCL := Lib.hid (fun W => cellI_any (rb := rb) hj16 W)
  have kc := HDS.out.st.cellAt hj16
  have kf := HDS.out.st.free (4 + ja)
  have HPT := Lib.hid (fun q => show IPost w0 ua nu uc rb N gb n D w (regs, { s.take with cells := setI s.take.cells (ja : Int) (atI regs (i1 : Int)) }) ((w3.drewN q).setCell ⟨rb, 4 + ja, none⟩ (.int .i64 (atI regs (i1 : Int)))) from by
    have h1 := (HDS.out.drewN q).st.putc hj16 (atI regs (i1 : Int))
    exact ⟨D, sv, tv, h1.1, fun _ => (HDS.out.drewN q).rg.stay h1.2.turned HDS.out.rg.out HDS.out.rg.out, ((HDS.out.drewN q).step.trans h1.2).plus⟩)
  go_wp2_with fail
  refine (show Calls _ _ _ w3 _ from HA0.out 0).mono ?_
  rintro e w4 ⟨rfl, q, rfl⟩
  go_wp2_with fail
  refine (HCL.out _).mono ?_
  rintro e w5 ⟨rfl, rfl⟩
  go_wp2_with fail
  refine (HA1.out q).mono ?_
  rintro e w5 ⟨rfl, q2, rfl⟩
  have HP := Lib.hid (HPT.out (q + q2))
  go_wp2
  go_end0
  exact ⟨by rw [HTF.out]; rfl, HP.out⟩
set_option maxRecDepth 100000 in
set_option maxHeartbeats 4000000 in
theorem insI_farput (call : Nat → List Int → RunS → Int × RunS) {num tq : Int} {ac ab ao i0 i1 : Nat} (hi0 : i0 < n) (c0 : w0.cell? ⟨ab, ao, none⟩ = some (.int .i64 (i0 : Int))) (hi1 : i1 < n) (c1 : w0.cell? ⟨ab, ao + 1, none⟩ = some (.int .i64 (i1 : Int))) (hnl : n ≤ 300) (hN : N ≤ 60000) (h : MSt w0 ua nu uc rb N D sv tv w s) (hr : RgSt w0.heap.size gb n D w regs) (hs : Good s) (hf : s.fin = none) (htk : s.take.fin = none) (hfar : 16 ≤ atI regs (i0 : Int)) :
    Calls Try.prog 50 #[.pointer (some ⟨rb, 0, none⟩), .agg #[.int .i64 12, .int .i64 tq, .slice (some ⟨ab, ao, none⟩) 2 ac, .int .i64 num], .slice (some ⟨gb, 0, none⟩) n n] w fun e w' => e = outE (insRun doD call ⟨12, tq, [(i0 : Int), (i1 : Int)], num⟩ regs s.take).2.fin (.tuple #[]) ∧ IPost w0 ua nu uc rb N gb n D w (insRun doD call ⟨12, tq, [(i0 : Int), (i1 : Int)], num⟩ regs s.take) w' := by
  have hI : insRun doD call ⟨12, tq, [(i0 : Int), (i1 : Int)], num⟩ regs s.take = insDo doD call ⟨12, tq, [(i0 : Int), (i1 : Int)], num⟩ (atI regs (i0 : Int)) (atI regs (i1 : Int)) regs s.take := insRun_of rfl rfl
  rw [hI]
  clear hI
  rw [insDo_far (by exact .inr rfl) hfar]
  have hmf : ∀ (fn : Fn) (first cap : Array Value) (w : World), (Instr.makeFunc fn first cap).run Try.prog w = .ok (.func fn first cap) w := fun _ _ _ _ => rfl
  have hba := (two_blocks w (.cells #[.int .i64 12, .int .i64 tq, .slice (some ⟨ab, ao, none⟩) 2 ac, .int .i64 num] 83) (.cells #[.slice (some ⟨gb, 0, none⟩) n n] 26)).2.2.2
  have hrlt := hr.lt
  have hbs := h.base.size
  generalize hW : ((w.alloc (.cells #[.int .i64 12, .int .i64 tq, .slice (some ⟨ab, ao, none⟩) 2 ac, .int .i64 num] 83)).alloc (.cells #[.slice (some ⟨gb, 0, none⟩) n n] 26)) = W2 at hba
  have HT := Lib.hid (tickI_any (h.later hba) hN hf)
  rw [htk] at HT
  have HW := Lib.hid hW
  have HTF := Lib.hid htk
  have HD := Lib.hid (fun w3 (h3 : MSt w0 ua nu uc rb N D sv tv w3 s.take) (hT : Step D W2 D w3) => show DSt w0 ua nu uc rb N gb n w.heap.size [.int .i64 12, .int .i64 tq, .slice (some ⟨ab, ao, none⟩) 2 ac, .int .i64 num] D D sv tv w regs s.take w3 from DSt.start h hr _ hW h3 hT)
  have hen : ∀ v W, (callFunc 69 (#[v] ++ #[.pointer (some ⟨w.heap.size + 1, 0, none⟩), .pointer (some ⟨w.heap.size, 0, none⟩)])).run Try.prog W = .ok (.enter 69 (#[v] ++ #[.pointer (some ⟨w.heap.size + 1, 0, none⟩), .pointer (some ⟨w.heap.size, 0, none⟩)])) W := fun v W => by kernel_rfl
  clear h hr hf hba hW htk hs
  obtain ⟨xb, hxb⟩ : ∃ b, b = w.heap.size := ⟨_, rfl⟩
  rw [← hxb] at HD hen
  have HXB := Lib.hid hxb
  clear hxb
  go_enter Try.func50, Try.ntmps50
  go_upto_region 1 with fail
  rw [HW.out, ← HXB.out]
  go_wp2_with fail
  refine HT.out.mono ?_
  rintro e w3 ⟨he, h3, hT3⟩
  obtain rfl : e = .returned (.tuple #[]) := he
  have HDS := Lib.hid (HD.out w3 h3 hT3)
  have x0 := HDS.out.xc 0
  have x1 := HDS.out.xc 1
  have x2 := HDS.out.xc 2
  have x3 := HDS.out.xc 3
  simp only [List.getElem?_cons_zero, List.getElem?_cons_succ] at x0 x1 x2 x3
  have g0 := HDS.out.gc
  clear HD HT h3 hT3
  have q0 := cell_later HDS.out.st.base c0
  have r0 := HDS.out.rg.at hi0
  have HA0 := Lib.hid (fun q => show Calls Try.prog 69 #[.int .i64 0, .pointer (some ⟨xb + 1, 0, none⟩), .pointer (some ⟨xb, 0, none⟩)] (w3.drewN q) fun e u => e = .returned (.int .i64 (atI regs (i0 : Int))) ∧ ∃ p, u = (w3.drewN q).drewN p from argI_any (k := 0) (L := 2) (ac := ac) (w3.drewN q) (cell_later (below_drewN (Below.refl _ _) q) g0) (cell_later (below_drewN (Below.refl _ _) q) x2) (by omega) (by omega) (cell_later (below_drewN (Below.refl _ _) q) q0) hi0 hnl (cell_later (below_drewN (Below.refl _ _) q) r0))
  have q1 := cell_later HDS.out.st.base c1
  have r1 := HDS.out.rg.at hi1
  have HA1 := Lib.hid (fun q => show Calls Try.prog 69 #[.int .i64 1, .pointer (some ⟨xb + 1, 0, none⟩), .pointer (some ⟨xb, 0, none⟩)] (w3.drewN q) fun e u => e = .returned (.int .i64 (atI regs (i1 : Int))) ∧ ∃ p, u = (w3.drewN q).drewN p from argI_any (k := 1) (L := 2) (ac := ac) (w3.drewN q) (cell_later (below_drewN (Below.refl _ _) q) g0) (cell_later (below_drewN (Below.refl _ _) q) x2) (by omega) (by omega) (cell_later (below_drewN (Below.refl _ _) q) q1) hi1 hnl (cell_later (below_drewN (Below.refl _ _) q) r1))
  have HCL := Lib.hid (fun W => cellI_far (rb := rb) hfar W)
  have HPT := Lib.hid (fun q => (HDS.out.drewN q).ends 2)
  have HFE := Lib.hid (show (s.take.stop 2).fin = some 2 by unfold RunS.stop; rw [HTF.out])
  clear hfar
  go_wp2_with fail
  refine (show Calls _ _ _ w3 _ from HA0.out 0).mono ?_
  rintro e w4 ⟨rfl, q, rfl⟩
  go_wp2_with fail
  refine (HCL.out _).mono ?_
  rintro e w5 ⟨rfl, rfl⟩
  exact ⟨rfl, by rw [HFE.out]; rfl, HPT.out q⟩
end

end Go.Proofs.Ytajnldkempeheaa
