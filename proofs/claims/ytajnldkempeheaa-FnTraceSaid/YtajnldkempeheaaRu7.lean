/-
  The program's run of a unit: from its beginning to its outcome.
-/
import Derived.Test.YtajnldkempeheaaRu6
import Derived.Deep.RegionHeld3

namespace Go.Proofs.Ytajnldkempeheaa
open Go.RowKit
set_option linter.unusedVariables false
set_option linter.unusedSimpArgs false

theorem results_cellU {P : Program} {fn : Func} {p u : Tmp} {ty : TypeId} (h : fn.results = #[.cell p ty, .tmp u]) (tmps : Array Value) (w : World) (g : Nat) (t : TypeId) (cs : Array Value) (fr : Nat × Nat) (d : TypeDesc)
    (hp : tmps.getD p undef = .pointer (some ⟨g, 0, none⟩)) (hg : w.heap[g]? = some (.cells cs t fr))
    (hu : P.underlying ty = some d) (hd : (match d with | .struct _ | .array _ _ => true | _ => false) = true) (hi : (P.info? ty).map (·.size) = some cs.size) :
    (results fn tmps).run P w = .ok (.tuple #[.agg cs, tmps.getD u undef]) w := by
  rw [results_cell_tmp h, hp]
  simp [asAddr, run_loadVar_row w g t ty cs fr d hg hu hd hi]
theorem setCells4U (w : World) (g : Nat) (v0 v1 v2 v3 : Value) : w.setCells g 0 [v0, v1, v2, v3] = (((w.setCell ⟨g, 0, none⟩ v0).setCell ⟨g, 1, none⟩ v1).setCell ⟨g, 2, none⟩ v2).setCell ⟨g, 3, none⟩ v3 := rfl
theorem alloc3_blocks (w : World) (P Q R : Obj) : (((w.alloc P).alloc Q).alloc R).heap[w.heap.size]? = some P ∧ (((w.alloc P).alloc Q).alloc R).heap[w.heap.size + 1]? = some Q ∧ (((w.alloc P).alloc Q).alloc R).heap[w.heap.size + 2]? = some R ∧ Below w.heap.size w (((w.alloc P).alloc Q).alloc R) ∧ (((w.alloc P).alloc Q).alloc R).heap.size = w.heap.size + 3 := by
  have h := three_blocks w P Q R
  exact ⟨h.1.p, h.1.z, h.1.u, h.2.2, h.2.1⟩
theorem own_slice {w : World} {base : Nat} {e : TypeId} {v : Value} {n : Nat} {xs : List Value} (h : w.ownsRow base e 1 v n xs) : ∃ a c, v = .slice a n c := by
  rcases h.2 with ⟨rfl, rfl⟩ | ⟨g, cap, cur, rfl, _⟩
  · exact ⟨none, 0, rfl⟩
  · exact ⟨_, _, rfl⟩
/-- Behind the run. -/
structure RunM (w0 : World) (ua : Option Addr) (nu uc rb N n : Nat) (D : Nat → Prop) (sv tv : Value) (s : RunS) (x0 x3 : Value) (en v : Int) (W : World) : Prop where
  m : MSt w0 ua nu uc rb N D sv tv W s
  p : W.heap[rb + 1]? = some (.cells #[.pointer (some ⟨rb, 0, none⟩)] 47 (0, 0))
  o : W.heap[rb + 1 + 1]? = some (.cells #[x0, .int .i64 en, .int .i64 v, x3] 32 (0, 0))
  r : W.heap[n + 1 + 1]? = some (.cells #[.slice none 0 0, .int .i64 0, .int .i64 0, .slice none 0 0] 32 (0, 0))
  lt : w0.heap.size = n ∧ rb = n + 3
  nd : ¬ D (rb + 1) ∧ ¬ D (rb + 1 + 1) ∧ ¬ D (n + 1 + 1)
section
variable {w0 W W' : World} {ua : Option Addr} {nu uc rb N n : Nat} {D : Nat → Prop} {sv tv x0 x3 : Value} {s : RunS} {en v : Int}
theorem RunM.later (h : RunM w0 ua nu uc rb N n D sv tv s x0 x3 en v W) (hb : Below W.heap.size W W') : RunM w0 ua nu uc rb N n D sv tv s x0 x3 en v W' :=
  ⟨h.m.later hb, (hb.block _ (Array.getElem?_eq_some_iff.1 h.p).1).trans h.p, (hb.block _ (Array.getElem?_eq_some_iff.1 h.o).1).trans h.o, (hb.block _ (Array.getElem?_eq_some_iff.1 h.r).1).trans h.r, h.lt, h.nd⟩
theorem RunM.put0 (h : RunM w0 ua nu uc rb N n D sv tv s x0 x3 en v W) (y : Value) : RunM w0 ua nu uc rb N n D sv tv s y x3 en v (W.setCell ⟨rb + 1 + 1, 0, none⟩ y) := by
  have ht := turned_store W (rb + 1 + 1) 0 y
  have hl := h.lt
  exact ⟨h.m.stay ht (fun k hk => by subst hk; exact ⟨h.nd.2.1, by omega⟩), (ht.block _ (Array.getElem?_eq_some_iff.1 h.p).1 (by omega)).trans h.p, (heap_setCell_same W (rb + 1 + 1) 0 _ _ _ h.o).trans rfl, (ht.block _ (Array.getElem?_eq_some_iff.1 h.r).1 (by omega)).trans h.r, h.lt, h.nd⟩
theorem RunM.put3 (h : RunM w0 ua nu uc rb N n D sv tv s x0 x3 en v W) (y : Value) : RunM w0 ua nu uc rb N n D sv tv s x0 y en v (W.setCell ⟨rb + 1 + 1, 3, none⟩ y) := by
  have ht := turned_store W (rb + 1 + 1) 3 y
  have hl := h.lt
  exact ⟨h.m.stay ht (fun k hk => by subst hk; exact ⟨h.nd.2.1, by omega⟩), (ht.block _ (Array.getElem?_eq_some_iff.1 h.p).1 (by omega)).trans h.p, (heap_setCell_same W (rb + 1 + 1) 3 _ _ _ h.o).trans rfl, (ht.block _ (Array.getElem?_eq_some_iff.1 h.r).1 (by omega)).trans h.r, h.lt, h.nd⟩
theorem RunM.ptr (h : RunM w0 ua nu uc rb N n D sv tv s x0 x3 en v W) : W.cell? ⟨rb + 1, 0, none⟩ = some (.pointer (some ⟨rb, 0, none⟩)) := cell_of_row _ _ 0 _ _ _ h.p
theorem RunM.said (h : RunM w0 ua nu uc rb N n D sv tv s x0 x3 en v W) : W.cell? ⟨rb, 3, none⟩ = some sv := h.m.cell 3
theorem RunM.oc (h : RunM w0 ua nu uc rb N n D sv tv s x0 x3 en v W) (i : Nat) : W.cell? ⟨rb + 1 + 1, i, none⟩ = (#[x0, .int .i64 en, .int .i64 v, x3] : Array Value)[i]? := cell_of_row _ _ i _ _ _ h.o
theorem RunM.of (h : RunM w0 ua nu uc rb N n D sv tv s x0 x3 en v W) (i : Nat) : W.frozen? ⟨rb + 1 + 1, i, none⟩ = false := frozen_of_row _ _ i _ _ h.o
theorem MSt.cellsRd (h : MSt w0 ua nu uc rb N D sv tv W s) : IntsRd W (some ⟨rb, 4, none⟩) 16 s.cells := by
  refine ⟨h.len, .inr ⟨rb, 4, rfl, fun i v hv => ?_⟩⟩
  rw [List.getElem?_map] at hv
  cases hx : s.cells[i]? with
  | none => rw [hx] at hv; cases hv
  | some x =>
    rw [hx] at hv
    cases hv
    have hi := (List.getElem?_eq_some_iff.1 hx).1
    rw [h.len] at hi
    rw [h.cellAt hi]
    have := atI_some (xs := s.cells) (j := i) (by rw [h.len]; exact hi)
    rw [hx] at this
    rw [Option.some.inj this]
theorem MSt.start {w : World} {ua : Option Addr} {nu uc rb N : Nat} (hw : Below w.heap.size w W) (h1 : W.heap[rb]? = some (.cells #[.slice ua nu uc, .int .i64 (N : Int), .int .i64 0, .slice none 0 0, .int .i64 0, .int .i64 0, .int .i64 0, .int .i64 0, .int .i64 0, .int .i64 0, .int .i64 0, .int .i64 0, .int .i64 0, .int .i64 0, .int .i64 0, .int .i64 0, .int .i64 0, .int .i64 0, .int .i64 0, .int .i64 0, .slice none 0 0] 52 (0, 0))) (hr : w.heap.size ≤ rb) :
    MSt w ua nu uc rb N (fun k => k = rb) (.slice none 0 0) (.slice none 0 0) W (startS N) := by
  have hlt := (Array.getElem?_eq_some_iff.1 h1).1
  refine ⟨?_, rfl, Nat.le_refl _, World.ownsRow_nil _ _ _ _, World.ownsRow_nil _ _ _ _, rfl, fun k hk => by simp [Value.ownBlock] at hk, fun k hk => by simp [Value.ownBlock] at hk, fun k hk => hk ▸ hr, fun k hk => hk ▸ hlt, hw⟩
  rw [h1, mList, show (N : Int) - ((startS N).left : Int) = 0 from Int.sub_self _]
  rfl
end
/-- What is seen of the program's run when it is over. -/
structure RunEndI (us : List CodeD) (inp : List Int) (N rb : Nat) (w : World) : Prop where
  used : w.cell? ⟨rb, 2, none⟩ = some (.int .i64 ((N : Int) - ((runP us inp N).2.left : Int)))
  trace : ∃ ta tc, w.cell? ⟨rb, 20, none⟩ = some (.slice ta (runP us inp N).2.trace.length tc) ∧ IntsRd w ta (runP us inp N).2.trace.length (natI (runP us inp N).2.trace)
section
variable {w : World} {us : List CodeD} {ua : Option Addr} {uc N : Nat} {inp : List Int} {ia : Option Addr} {ic : Nat}
set_option maxRecDepth 100000 in
set_option maxHeartbeats 4000000 in
theorem runUnit_any (hV : UnitV us) (hsz : szS szCodeD us ≤ 1048576) (hU : SliceRd 3 CodeR w ua us.length us) (hN : N ≤ 60000) (hp : (inp.length : Int) = lastParams us) (hin : IntsRd w ia inp.length inp) (hby : Byts inp) :
    Calls Try.prog 16 #[.agg #[.slice ua us.length uc], .slice ia inp.length ic, .int .i64 (N : Int)] w fun e w' => ∃ rb sa sc ca cc v, e = .returned (.tuple #[.agg #[.slice sa (runP us inp N).2.said.length sc, .int .i64 ((runP us inp N).2.fin.getD 0), .int .i64 v, .slice ca 16 cc], .pointer (some ⟨rb, 0, none⟩)]) ∧
      w'.ownsRow w.heap.size 3 1 (.slice sa (runP us inp N).2.said.length sc) (runP us inp N).2.said.length ((runP us inp N).2.said.map (Value.int .i64)) ∧ RunEndI us inp N rb w' ∧ Below w.heap.size w w' := by
  have hmf : ∀ (fn : Fn) (first cap : Array Value) (w : World), (Instr.makeFunc fn first cap).run Try.prog w = .ok (.func fn first cap) w := fun _ _ _ _ => rfl
  have H0 := Lib.hid (alloc3_blocks w (.cells #[.slice ua us.length uc] 25) (.cells #[.slice ia inp.length ic] 26) (.cells #[.slice none 0 0, .int .i64 0, .int .i64 0, .slice none 0 0] 32))
  have HL := Lib.hid (And.intro hV (And.intro hsz (And.intro hU (And.intro hN (And.intro hp (And.intro hin hby))))))
  clear hV hsz hU hp hin hby
  go_enter Try.func16, Try.ntmps16
  go_upto_region 1 with fail
  obtain ⟨n, hn⟩ : ∃ n, n = w.heap.size := ⟨_, rfl⟩
  generalize ((w.alloc (.cells #[.slice ua us.length uc] 25)).alloc (.cells #[.slice ia inp.length ic] 26)).alloc (.cells #[.slice none 0 0, .int .i64 0, .int .i64 0, .slice none 0 0] 32) = W3 at H0 ⊢
  rw [← hn] at H0 ⊢
  have H3 := Lib.hid (show W3.heap[n]? = some (.cells #[.slice ua us.length uc] 25 (0, 0)) ∧ W3.heap[n + 1]? = some (.cells #[.slice ia inp.length ic] 26 (0, 0)) ∧ W3.heap[n + 1 + 1]? = some (.cells #[.slice none 0 0, .int .i64 0, .int .i64 0, .slice none 0 0] 32 (0, 0)) ∧ Below w.heap.size w W3 ∧ W3.heap.size = n + 3 ∧ w.heap.size = n from ⟨H0.out.1, H0.out.2.1, H0.out.2.2.1, by rw [← hn]; exact H0.out.2.2.2.1, H0.out.2.2.2.2, hn.symm⟩)
  clear H0 hn
  have p0 := cell_of_row _ _ 0 _ _ _ H3.out.1
  simp only [List.getElem?_toArray, List.getElem?_cons_zero] at p0
  go_upto_region 3 with fail
  clear p0
  have H4 := Lib.hid (alloc3_blocks W3 (.cells #[.slice ua us.length uc, .int .i64 (N : Int), .int .i64 0, .slice none 0 0, .int .i64 0, .int .i64 0, .int .i64 0, .int .i64 0, .int .i64 0, .int .i64 0, .int .i64 0, .int .i64 0, .int .i64 0, .int .i64 0, .int .i64 0, .int .i64 0, .int .i64 0, .int .i64 0, .int .i64 0, .int .i64 0, .slice none 0 0] 52) (.cells #[.pointer (some ⟨W3.heap.size, 0, none⟩)] 47) (.cells #[.slice none 0 0, .int .i64 0, .int .i64 0, .slice none 0 0] 32))
  obtain ⟨rb, hrb⟩ : ∃ n, n = W3.heap.size := ⟨_, rfl⟩
  generalize ((W3.alloc (.cells #[.slice ua us.length uc, .int .i64 (N : Int), .int .i64 0, .slice none 0 0, .int .i64 0, .int .i64 0, .int .i64 0, .int .i64 0, .int .i64 0, .int .i64 0, .int .i64 0, .int .i64 0, .int .i64 0, .int .i64 0, .int .i64 0, .int .i64 0, .int .i64 0, .int .i64 0, .int .i64 0, .int .i64 0, .slice none 0 0] 52)).alloc (.cells #[.pointer (some ⟨W3.heap.size, 0, none⟩)] 47)).alloc (.cells #[.slice none 0 0, .int .i64 0, .int .i64 0, .slice none 0 0] 32) = W6 at H4 ⊢
  rw [← hrb] at H4 ⊢
  have HS := Lib.hid (show MSt w ua us.length uc rb N (fun k => k = rb) (.slice none 0 0) (.slice none 0 0) W6 (startS N) ∧ W6.cell? ⟨rb + 1, 0, none⟩ = some (.pointer (some ⟨rb, 0, none⟩)) ∧ W6.cell? ⟨n, 0, none⟩ = some (.slice ua us.length uc) ∧ W6.cell? ⟨n + 1, 0, none⟩ = some (.slice ia inp.length ic) ∧ W6.heap[rb + 1 + 1]? = some (.cells (oRow 0 0) 32 (0, 0)) ∧ W6.heap[n + 1 + 1]? = some (.cells #[.slice none 0 0, .int .i64 0, .int .i64 0, .slice none 0 0] 32 (0, 0)) ∧ W6.heap[rb + 1]? = some (.cells #[.pointer (some ⟨rb, 0, none⟩)] 47 (0, 0)) ∧ Below w.heap.size w W6 ∧ w.heap.size = n ∧ rb = n + 3 from by
    have hb : Below W3.heap.size W3 W6 := by rw [← hrb]; exact H4.out.2.2.2.1
    have h3 := H3.out
    have hw := h3.2.2.2.1.trans (hb.mono h3.2.2.2.1.size)
    exact ⟨MSt.start hw H4.out.1 (by omega), cell_of_row _ _ 0 _ _ _ H4.out.2.1, cell_of_row _ _ 0 _ _ _ ((hb.block n (by omega)).trans h3.1), cell_of_row _ _ 0 _ _ _ ((hb.block (n + 1) (by omega)).trans h3.2.1), H4.out.2.2.1, (hb.block (n + 1 + 1) (by omega)).trans h3.2.2.1, H4.out.2.1, hw, h3.2.2.2.2.2, by omega⟩)
  have HC := Lib.hid (caughtU_any (mpb := rb + 1) (ub := n) (ib := n + 1) (ob := rb + 1 + 1) (ic := ic) HL.out.1 HL.out.2.1 HL.out.2.2.1 hN HL.out.2.2.2.2.1 (HL.out.2.2.2.2.2.1.later HS.out.2.2.2.2.2.2.2.1) HL.out.2.2.2.2.2.2 HS.out.1 HS.out.2.1 HS.out.2.2.1 HS.out.2.2.2.1 HS.out.2.2.2.2.1 (by omega) (by have := HS.out.2.2.2.2.2.2.2.2; omega))
  clear hrb H3 H4
  obtain ⟨R, hR⟩ : ∃ R, R = runP us inp N := ⟨_, rfl⟩
  rw [← hR] at HC
  have HR := Lib.hid hR
  clear hR
  go_wp2_with fail
  refine HC.out.mono ?_
  rintro e w7 ⟨rfl, D2, sv2, tv2, hS7, hT7, hn7, hO7⟩
  obtain ⟨sa, sc, rfl⟩ := own_slice hS7.said
  obtain ⟨en, hen⟩ : ∃ n, n = R.2.fin.getD 0 := ⟨_, rfl⟩
  rw [← hen]
  have HEN := Lib.hid hen
  clear hen
  obtain ⟨v, hv⟩ : ∃ n, n = valOf R := ⟨_, rfl⟩
  rw [← hv] at hO7
  clear hv
  have H7 := Lib.hid (show RunM w ua us.length uc rb N n D2 (.slice sa R.2.said.length sc) tv2 R.2 (.slice none 0 0) (.slice none 0 0) 0 v w7 from by
    have hs := HS.out
    have d1 : ¬ (rb + 1 = rb ∨ rb + 1 = rb + 1 + 1) := by omega
    have d2 : ¬ (n + 1 + 1 = rb ∨ n + 1 + 1 = rb + 1 + 1) := by have := hs.2.2.2.2.2.2.2.2; omega
    exact ⟨hS7, hT7.block hs.2.2.2.2.2.2.1 d1, hO7, hT7.block hs.2.2.2.2.2.1 d2, hs.2.2.2.2.2.2.2.2, fun hd => hT7.out (Array.getElem?_eq_some_iff.1 hs.2.2.2.2.2.2.1).1 d1 (.inl hd), hn7, fun hd => hT7.out (Array.getElem?_eq_some_iff.1 hs.2.2.2.2.2.1).1 d2 (.inl hd)⟩)
  clear hS7 hT7 hn7 hO7 HC HS
  have o1 := H7.out.oc 1
  have z1 := H7.out.of 1
  simp only [List.getElem?_toArray, List.getElem?_cons_zero, List.getElem?_cons_succ] at o1
  go_upto_region 4 with fail
  clear o1 z1
  have H8 := Lib.hid (show RunM w ua us.length uc rb N n D2 (.slice sa R.2.said.length sc) tv2 R.2 (.slice none 0 0) (.slice none 0 0) en v (w7.setCell ⟨rb + 1 + 1, 1, none⟩ (.int .i64 en)) from by
    have h := H7.out
    have ht := turned_store w7 (rb + 1 + 1) 1 (.int .i64 en)
    have hl := h.lt
    exact ⟨h.m.stay ht (fun k hk => by subst hk; exact ⟨h.nd.2.1, by omega⟩), (ht.block _ (Array.getElem?_eq_some_iff.1 h.p).1 (by omega)).trans h.p, (heap_setCell_same w7 (rb + 1 + 1) 1 _ _ _ h.o).trans rfl, (ht.block _ (Array.getElem?_eq_some_iff.1 h.r).1 (by omega)).trans h.r, h.lt, h.nd⟩)
  clear H7
  generalize w7.setCell ⟨rb + 1 + 1, 1, none⟩ (.int .i64 en) = W8 at H8 ⊢
  obtain ⟨L, hL⟩ : ∃ v, v = R.2.said.length := ⟨_, rfl⟩
  rw [← hL] at H8
  have HSV := Lib.hid hL
  clear hL
  have HCL := Lib.hid (show ∀ (x0 x3 : Value) W, RunM w ua us.length uc rb N n D2 (.slice sa L sc) tv2 R.2 x0 x3 en v W → Calls Try.prog 33 #[.slice (some ⟨rb, 4, none⟩) 16 16] W fun e w' => ∃ a c, e = .returned (.slice a 16 c) ∧ Hid (RunM w ua us.length uc rb N n D2 (.slice sa L sc) tv2 R.2 x0 x3 en v w') from fun x0 x3 W hW => by
    refine (clone_any rb 4 16 16 R.2.cells W hW.m.cellsRd (by omega)).mono ?_
    rintro e w' ⟨a, c, rfl, -, hb⟩
    exact ⟨a, c, rfl, Lib.hid (hW.later hb)⟩)
  have mm := H8.out.said
  have mp := H8.out.ptr
  have o0 := H8.out.oc 0
  have o3 := H8.out.oc 3
  simp only [List.getElem?_toArray, List.getElem?_cons_zero, List.getElem?_cons_succ] at o0 o3
  have f0 := H8.out.of 0
  have f3 := H8.out.of 3
  have H9 := Lib.hid (H8.out.later ((Below.refl W8.heap.size W8).drew))
  have H9p := Lib.hid (H9.out.put0 (.slice sa L sc))
  go_region_held3 (fun W => W.cell? ⟨rb + 1, 0, none⟩ = some (.pointer (some ⟨rb, 0, none⟩)) ∧ W.cell? ⟨rb, 3, none⟩ = some (.slice sa L sc)) (first | exact ⟨H9.out.ptr, H9.out.said⟩ | exact ⟨H9p.out.ptr, H9p.out.said⟩ | exact ⟨hw10.out.ptr, hw10.out.said⟩ | exact ⟨(hw10.out.put0 _).ptr, (hw10.out.put0 _).said⟩ | exact ⟨(hw10.out.put3 _).ptr, (hw10.out.put3 _).said⟩ | exact ⟨((hw10.out.put0 _).put3 _).ptr, ((hw10.out.put0 _).put3 _).said⟩) (first | (go_at_call 33; (first | refine (HCL.out _ _ _ H9.out).mono ?_ | refine (HCL.out _ _ _ H9p.out).mono ?_); rintro e w10 ⟨ca, cc, rfl, hw10⟩; (have q0 := hw10.out.oc 0); (have q3 := hw10.out.oc 3); (simp only [List.getElem?_toArray, List.getElem?_cons_zero, List.getElem?_cons_succ] at q0 q3); (have g0 := hw10.out.of 0); (have g3 := hw10.out.of 3)))
  all_goals
    first
    | have HF := Lib.hid ((hw10.out.put0 (.slice sa L sc)).put3 (.slice ca 16 cc))
      generalize (w10.setCell ⟨rb + 1 + 1, 0, none⟩ (.slice sa L sc)).setCell ⟨rb + 1 + 1, 3, none⟩ (.slice ca 16 cc) = W11 at HF ⊢
    | have HF := Lib.hid (hw10.out.put3 (.slice ca 16 cc))
      generalize w10.setCell ⟨rb + 1 + 1, 3, none⟩ (.slice ca 16 cc) = W11 at HF ⊢
    clear mm mp o0 o3 f0 f3 q0 q3 g0 g3
    have HS := Lib.hid (show W11.cell? ⟨rb + 1, 0, none⟩ = some (.pointer (some ⟨rb, 0, none⟩)) ∧ W11.cell? ⟨rb + 1 + 1, 0, none⟩ = some (.slice sa L sc) ∧ W11.cell? ⟨rb + 1 + 1, 1, none⟩ = some (.int .i64 en) ∧ W11.cell? ⟨rb + 1 + 1, 2, none⟩ = some (.int .i64 v) ∧ W11.cell? ⟨rb + 1 + 1, 3, none⟩ = some (.slice ca 16 cc) from ⟨HF.out.ptr, HF.out.oc 0, HF.out.oc 1, HF.out.oc 2, HF.out.oc 3⟩)
    have HSD := Lib.hid (show W11.drew.cell? ⟨rb + 1, 0, none⟩ = some (.pointer (some ⟨rb, 0, none⟩)) ∧ W11.drew.cell? ⟨rb + 1 + 1, 0, none⟩ = some (.slice sa L sc) ∧ W11.drew.cell? ⟨rb + 1 + 1, 1, none⟩ = some (.int .i64 en) ∧ W11.drew.cell? ⟨rb + 1 + 1, 2, none⟩ = some (.int .i64 v) ∧ W11.drew.cell? ⟨rb + 1 + 1, 3, none⟩ = some (.slice ca 16 cc) from HS.out)
    have HZ := Lib.hid (show (((((W11.setCell ⟨n + 1 + 1, 0, none⟩ (.slice sa L sc)).setCell ⟨n + 1 + 1, 1, none⟩ (.int .i64 en)).setCell ⟨n + 1 + 1, 2, none⟩ (.int .i64 v)).setCell ⟨n + 1 + 1, 3, none⟩ (.slice ca 16 cc)).cell? ⟨rb + 1, 0, none⟩ = some (.pointer (some ⟨rb, 0, none⟩)) ∧ ((((W11.setCell ⟨n + 1 + 1, 0, none⟩ (.slice sa L sc)).setCell ⟨n + 1 + 1, 1, none⟩ (.int .i64 en)).setCell ⟨n + 1 + 1, 2, none⟩ (.int .i64 v)).setCell ⟨n + 1 + 1, 3, none⟩ (.slice ca 16 cc)).cell? ⟨rb + 1 + 1, 0, none⟩ = some (.slice sa L sc) ∧ ((((W11.setCell ⟨n + 1 + 1, 0, none⟩ (.slice sa L sc)).setCell ⟨n + 1 + 1, 1, none⟩ (.int .i64 en)).setCell ⟨n + 1 + 1, 2, none⟩ (.int .i64 v)).setCell ⟨n + 1 + 1, 3, none⟩ (.slice ca 16 cc)).cell? ⟨rb + 1 + 1, 1, none⟩ = some (.int .i64 en) ∧ ((((W11.setCell ⟨n + 1 + 1, 0, none⟩ (.slice sa L sc)).setCell ⟨n + 1 + 1, 1, none⟩ (.int .i64 en)).setCell ⟨n + 1 + 1, 2, none⟩ (.int .i64 v)).setCell ⟨n + 1 + 1, 3, none⟩ (.slice ca 16 cc)).cell? ⟨rb + 1 + 1, 2, none⟩ = some (.int .i64 v) ∧ ((((W11.setCell ⟨n + 1 + 1, 0, none⟩ (.slice sa L sc)).setCell ⟨n + 1 + 1, 1, none⟩ (.int .i64 en)).setCell ⟨n + 1 + 1, 2, none⟩ (.int .i64 v)).setCell ⟨n + 1 + 1, 3, none⟩ (.slice ca 16 cc)).cell? ⟨rb + 1 + 1, 3, none⟩ = some (.slice ca 16 cc)) ∧ ((((W11.setCell ⟨n + 1 + 1, 0, none⟩ (.slice sa L sc)).setCell ⟨n + 1 + 1, 1, none⟩ (.int .i64 en)).setCell ⟨n + 1 + 1, 2, none⟩ (.int .i64 v)).setCell ⟨n + 1 + 1, 3, none⟩ (.slice ca 16 cc)).heap[n + 1 + 1]? = some (.cells #[.slice sa L sc, .int .i64 en, .int .i64 v, .slice ca 16 cc] 32 (0, 0)) ∧ MSt w ua us.length uc rb N D2 (.slice sa L sc) tv2 ((((W11.setCell ⟨n + 1 + 1, 0, none⟩ (.slice sa L sc)).setCell ⟨n + 1 + 1, 1, none⟩ (.int .i64 en)).setCell ⟨n + 1 + 1, 2, none⟩ (.int .i64 v)).setCell ⟨n + 1 + 1, 3, none⟩ (.slice ca 16 cc)) R.2 from by
      have ht := turned_setCells (g := n + 1 + 1) [.slice sa L sc, .int .i64 en, .int .i64 v, .slice ca 16 cc] W11 0
      have hl := HF.out.lt
      have hs := HS.out
      have hk : ∀ {q i : Nat} {x : Value}, W11.cell? ⟨q, i, none⟩ = some x → q ≠ n + 1 + 1 → ((((W11.setCell ⟨n + 1 + 1, 0, none⟩ (.slice sa L sc)).setCell ⟨n + 1 + 1, 1, none⟩ (.int .i64 en)).setCell ⟨n + 1 + 1, 2, none⟩ (.int .i64 v)).setCell ⟨n + 1 + 1, 3, none⟩ (.slice ca 16 cc)).cell? ⟨q, i, none⟩ = some x := fun {q i x} h hq => (World.cell?_of_block (ht.block q (World.block_lt_of_cell? W11 _ h) hq)).trans h
      refine ⟨⟨hk hs.1 (by omega), hk hs.2.1 (by omega), hk hs.2.2.1 (by omega), hk hs.2.2.2.1 (by omega), hk hs.2.2.2.2 (by omega)⟩, ?_, HF.out.m.stay ht (fun k hk => by subst hk; exact ⟨HF.out.nd.2.2, by omega⟩)⟩
      have := heap_setCells_mid (w := W11) (A := []) (B := [.slice none 0 0, .int .i64 0, .int .i64 0, .slice none 0 0]) (C := []) (vs := [.slice sa L sc, .int .i64 en, .int .i64 v, .slice ca 16 cc]) (o := 0) rfl (by simp) (by simpa using HF.out.r)
      rw [← setCells4U]
      simpa using this)
    have r0 := cell_of_row _ _ 0 _ _ _ HF.out.r
    have r1 := cell_of_row _ _ 1 _ _ _ HF.out.r
    have r2 := cell_of_row _ _ 2 _ _ _ HF.out.r
    have r3 := cell_of_row _ _ 3 _ _ _ HF.out.r
    have y0 := frozen_of_row _ _ 0 _ _ HF.out.r
    have y1 := frozen_of_row _ _ 1 _ _ HF.out.r
    have y2 := frozen_of_row _ _ 2 _ _ HF.out.r
    have y3 := frozen_of_row _ _ 3 _ _ HF.out.r
    simp only [List.getElem?_toArray, List.getElem?_cons_zero, List.getElem?_cons_succ] at r0 r1 r2 r3
    go_upto_region 5 with fail
    go_region_held3 (fun W => (W.cell? ⟨rb + 1, 0, none⟩ = some (.pointer (some ⟨rb, 0, none⟩)) ∧ W.cell? ⟨rb + 1 + 1, 0, none⟩ = some (.slice sa L sc) ∧ W.cell? ⟨rb + 1 + 1, 1, none⟩ = some (.int .i64 en) ∧ W.cell? ⟨rb + 1 + 1, 2, none⟩ = some (.int .i64 v) ∧ W.cell? ⟨rb + 1 + 1, 3, none⟩ = some (.slice ca 16 cc))) (first | exact HSD.out | exact HZ.out.1) (fail)
    all_goals
      have HE := Lib.hid (And.intro HZ.out.2.1 HZ.out.2.2)
      clear r0 r1 r2 r3 y0 y1 y2 y3
      generalize (((W11.setCell ⟨n + 1 + 1, 0, none⟩ (.slice sa L sc)).setCell ⟨n + 1 + 1, 1, none⟩ (.int .i64 en)).setCell ⟨n + 1 + 1, 2, none⟩ (.int .i64 v)).setCell ⟨n + 1 + 1, 3, none⟩ (.slice ca 16 cc) = W13 at HE ⊢
      go_wp2
      refine bodyPost_ret (results_cellU rfl _ _ (n + 1 + 1) 32 #[.slice sa L sc, .int .i64 en, .int .i64 v, .slice ca 16 cc] (0, 0) _ rfl ?_ Try.underlying32 rfl (by kernel_rfl)) rfl ?_
      · exact HE.out.1
      have hM := HE.out.2.later ((Below.refl W13.heap.size W13).drew)
      refine ⟨rb, sa, sc, ca, cc, v, by rw [← HR.out, ← HSV.out, ← HEN.out]; rfl, ?_, ⟨?_, ?_⟩, hM.base⟩
      · rw [← HR.out]
        have h1 := hM.said
        rw [HSV.out] at h1
        exact h1
      · rw [← HR.out]
        exact hM.cell 2
      · rw [← HR.out]
        obtain ⟨ta, tc, rfl⟩ := own_slice hM.trace
        exact ⟨ta, tc, hM.cellT, ⟨by simp [natI], rowAt_of_own hM.trace⟩⟩
end

end Go.Proofs.Ytajnldkempeheaa
