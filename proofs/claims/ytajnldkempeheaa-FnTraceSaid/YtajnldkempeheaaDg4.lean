/-
  The drawn unit: a code.
-/
import Derived.Test.YtajnldkempeheaaDg3
import Derived.Deep.DeepCutAuto

namespace Go.Proofs.Ytajnldkempeheaa
open Go.RowKit
set_option linter.unusedVariables false
set_option linter.unusedSimpArgs false

theorem put3g {W : World} {g : Nat} {t : TypeId} {a b c : Value} (h : W.heap[g]? = some (.cells #[a, b, c] t (0, 0))) (x0 x1 x2 : Value) :
    (((W.setCell ⟨g, 0, none⟩ x0).setCell ⟨g, 1, none⟩ x1).setCell ⟨g, 2, none⟩ x2).heap[g]? = some (.cells #[x0, x1, x2] t (0, 0)) ∧ Turned (fun k => k = g) W (((W.setCell ⟨g, 0, none⟩ x0).setCell ⟨g, 1, none⟩ x1).setCell ⟨g, 2, none⟩ x2) := by
  rw [show (((W.setCell ⟨g, 0, none⟩ x0).setCell ⟨g, 1, none⟩ x1).setCell ⟨g, 2, none⟩ x2) = W.setCells g 0 [x0, x1, x2] from rfl]
  have := heap_setCells_mid (w := W) (A := []) (B := [a, b, c]) (C := []) (vs := [x0, x1, x2]) (o := 0) rfl (by simp) (by simpa using h)
  exact ⟨by simpa using this, turned_setCells _ _ _⟩
theorem wrap_in (n : Int) (h : -9223372036854775808 ≤ n ∧ n ≤ 9223372036854775807) : IntKind.i64.wrap n = n := (IntWalk.i64_left n).trans (IntWalk.wrap64_in n h)
theorem rowAt_cells (w : World) (cs : List Value) (t : TypeId) : RowAt (w.alloc (.cells cs.toArray t)) (some ⟨w.heap.size, 0, none⟩) cs :=
  .inr ⟨_, _, rfl, fun i v hv => by (rw [cell_of_row _ _ (0 + i) _ _ _ (heap_alloc_new w _)]); simpa using hv⟩
/-- A code that is small. -/
def SmallC (N : Nat) (c : CodeD) : Prop := (0 ≤ c.params ∧ c.params ≤ 3) ∧ (1 ≤ c.regs ∧ c.regs ≤ 9) ∧ (1 ≤ c.blocks.length ∧ c.blocks.length ≤ 7) ∧ ∀ x ∈ c.blocks, szBlockD x ≤ N
theorem sz_drawnB {ins : List InsD} {jump jon : Int} {nx : List Int} (h1 : ins.length ≤ 4) (h2 : ∀ y ∈ ins, y.args.length ≤ 3) (h3 : nx.length ≤ 2) : szBlockD ⟨[], ins, jump, jon, nx⟩ ≤ 20 := by
  have h : ∀ l : List InsD, (∀ y ∈ l, y.args.length ≤ 3) → sumOf szInsD l ≤ 3 * l.length := by
    intro l
    induction l with
    | nil => intro _; simp [sumOf]
    | cons y l ih =>
      intro h
      have h1 := h y (List.mem_cons_self ..)
      have h2 := ih (fun z hz => h z (List.mem_cons_of_mem _ hz))
      simp only [sumOf, List.map_cons, List.sum_cons, List.length_cons] at h2 ⊢
      unfold szInsD at h2 ⊢
      omega
  have := h ins h2
  simp only [szBlockD, szS, sumOf, List.map_nil, List.sum_nil, List.length_nil] at this ⊢
  omega
/-- A code was drawn. -/
def CodeAns (w0 : World) (br : Nat) (ra : Option Addr) (rl rc : Nat) (bs : List Int) (K : Nat) (w : World) (e : Ending) (w' : World) : Prop :=
  ∃ (cs : List Value) (c : CodeD), e = .returned (.agg cs.toArray) ∧ CodeK (fun k => w.heap.size ≤ k) w' cs c ∧ SmallC 20 c ∧ RdAt w0 br ra rl rc bs K w w'
section
variable {w0 w W W' W2 w3 : World} {br : Nat} {ra : Option Addr} {rl rc : Nat} {bs : List Int} {ub rb cb : Nat} {us : List CodeD} {ua : Option Addr} {uc : Nat} {S : Nat → Prop} {K K' : Nat} {params regs : Int} {blocks : List BlockD} {ba : Option Addr} {bc : Nat} {Sb : Nat → Prop}
theorem CoSt.start (h2 : W2.heap[ub]? = some (.cells #[.slice ua us.length uc] 25 (0, 0)) ∧ W2.heap[ub + 1]? = some (.cells #[.int .i64 0, .int .i64 0, .slice none 0 0] 37 (0, 0))) (hub : ub = w.heap.size) (hb2 : Below w.heap.size w W2) (hU : SepK 3 37 CodeK S w ua us.length uc us) (hS : ∀ q, S q → q ≠ br ∧ q < w.heap.size)
    (hlt : br < w.heap.size ∧ w0.heap.size ≤ w.heap.size) (hb3 : Below W2.heap.size W2 W) (ht : Turned (fun k => k = br) W w3) (hr : RdAt w0 br ra rl rc bs K w w3) (v : Int) :
    CoSt w0 br ra rl rc bs w ub (ub + 1) w3.heap.size us ua uc S K v 0 [] none 0 (fun _ => False) (w3.alloc (.cells #[.int .i64 v, .int .i64 0, .slice none 0 0] 37)) := by
  have hb4 : Below w3.heap.size w3 (w3.alloc (.cells #[.int .i64 v, .int .i64 0, .slice none 0 0] 37)) := (Below.refl _ _).alloc (Nat.le_refl _) _
  have a1 := (Array.getElem?_eq_some_iff.1 h2.1).1
  have a2 := (Array.getElem?_eq_some_iff.1 h2.2).1
  have s3 := hb3.size
  have s4 := ht.size
  have key : ∀ q, q < W2.heap.size → q ≠ br → (w3.alloc (.cells #[.int .i64 v, .int .i64 0, .slice none 0 0] 37)).heap[q]? = W2.heap[q]? := fun q hq hn => (hb4.block q (by omega)).trans ((ht.block q (by omega) hn).trans (hb3.block q hq))
  have htt : Turned (fun k => k = br ∨ w.heap.size ≤ k) w (w3.alloc (.cells #[.int .i64 v, .int .i64 0, .slice none 0 0] 37)) :=
    (((turned_of_below hb2 (fun k h1 _ => .inr h1)).trans (turned_of_below hb3 (fun k h1 _ => .inr (by omega)))).trans (ht.mono (fun k hk => .inl hk))).trans (turned_of_below hb4 (fun k h1 _ => .inr (by omega)))
  exact ⟨(key _ a1 (by omega)).trans h2.1, (key _ a2 (by omega)).trans h2.2, heap_alloc_new _ _, SepK.nil, fun q hq => hq.elim, hU.turned codeK_sets htt (fun q _ h1 h2 => by have := hS q h1; omega), hS, hr.later hb4, by omega, by omega, by omega, by omega, by omega, by omega, by omega, by omega⟩
theorem CoSt.putR (h : CoSt w0 br ra rl rc bs w ub rb cb us ua uc S K params regs blocks ba bc Sb W) (v : Int) : CoSt w0 br ra rl rc bs w ub rb cb us ua uc S K params v blocks ba bc Sb (W.setCell ⟨cb, 1, none⟩ (.int .i64 v)) := by
  have hts := turned_store W cb 1 (.int .i64 v)
  have hlo := h.lo
  exact ⟨(hts.block _ (Array.getElem?_eq_some_iff.1 h.u).1 (by omega)).trans h.u, (hts.block _ (Array.getElem?_eq_some_iff.1 h.r).1 (by omega)).trans h.r, (heap_setCell_same W cb 1 _ _ _ h.c).trans rfl,
    h.k.turned blockK_sets hts (fun q _ h1 h2 => (h.sb q h1).2.2.2.2 h2), fun q hq => by rw [World.size_setCell]; exact h.sb q hq, h.un.turned codeK_sets hts (fun q _ h1 h2 => by have := h.su q h1; omega), h.su, h.rd.stay hts (fun q hq => by omega) hlo.2.1, h.lo⟩
theorem CoSt.pushed {k : Nat} {ins : List InsD} {jump jon : Int} {nx : List Int} {a' : Option Addr} {c' : Nat}
    (h : ∃ Sb', CoSt w0 br ra rl rc bs w ub rb cb us ua uc S K params regs (blocks ++ [⟨[], ins, jump, jon, nx⟩]) a' c' Sb' W)
    (hn : blocks.length = k ∧ ∀ x ∈ blocks, szBlockD x ≤ 20) (hi : ins.length ≤ 4) (hs : ∀ y ∈ ins, y.args.length ≤ 3) (hx : nx.length ≤ 2) (hK : K ≤ K') :
    ∃ bl ba' bc' Sb', CoSt w0 br ra rl rc bs w ub rb cb us ua uc S K' params regs bl ba' bc' Sb' W ∧ bl.length = k + 1 ∧ ∀ x ∈ bl, szBlockD x ≤ 20 := by
  obtain ⟨Sb', h⟩ := h
  refine ⟨_, _, _, _, h.more hK, by rw [List.length_append, List.length_singleton, hn.1], fun x hx' => ?_⟩
  rcases List.mem_append.1 hx' with hx' | hx'
  · exact hn.2 x hx'
  · rw [List.mem_singleton.1 hx']; exact sz_drawnB hi hs hx
theorem CoSt.fin (h : CoSt w0 br ra rl rc bs w ub rb cb us ua uc S K params regs blocks ba bc Sb W) (ht : Turned (fun k => k = rb) W W') (hs : SmallC 20 ⟨params, regs, blocks⟩) (hK : K ≤ K') :
    CodeAns w0 br ra rl rc bs K' w (.returned (.agg #[.int .i64 params, .int .i64 regs, .slice ba blocks.length bc])) W' := by
  have hlo := h.lo
  exact ⟨[.int .i64 params, .int .i64 regs, .slice ba blocks.length bc], ⟨params, regs, blocks⟩, rfl, ⟨ba, bc, rfl, (h.k.turned blockK_sets ht (fun q _ h1 h2 => (h.sb q h1).2.2.2.1 h2)).mono (fun q hq => (h.sb q hq).1)⟩, hs, (h.rd.stay ht (fun q hq => by omega) hlo.2.1).more hK⟩
end
section
variable {w0 w : World} {br : Nat} {ra : Option Addr} {rl rc : Nat} {bs : List Int} {K : Nat} {us : List CodeD} {ua : Option Addr} {uc : Nat} {S : Nat → Prop}
set_option maxRecDepth 100000 in
set_option maxHeartbeats 8000000 in
theorem l7Code_any (hR : RdAt w0 br ra rl rc bs K w w) (hrl : rl ≤ 2000) (hK : K + 400 ≤ 1000000) (hU : SepK 3 37 CodeK S w ua us.length uc us) (hS : ∀ q, S q → q ≠ br ∧ q < w.heap.size) (hul : us.length ≤ 4) (hpar : ∀ c ∈ us, 0 ≤ c.params ∧ c.params ≤ 3) :
    Calls Try.prog 37 #[.pointer (some ⟨br, 0, none⟩), .agg #[.slice ua us.length uc]] w fun e w' => CodeAns w0 br ra rl rc bs (K + 400) w e w' := by
  have h2 := two_blocks w (.cells #[.slice ua us.length uc] 25) (.cells #[.int .i64 0, .int .i64 0, .slice none 0 0] 37)
  have hlt := hR.lt
  generalize hW : (w.alloc (.cells #[.slice ua us.length uc] 25)).alloc (.cells #[.int .i64 0, .int .i64 0, .slice none 0 0] 37) = W2 at h2
  have HW := Lib.hid hW
  have hR2 := hR.later h2.2.2.2
  obtain ⟨ub, hub⟩ : ∃ b, b = w.heap.size := ⟨_, rfl⟩
  rw [← hub] at h2
  have hb2 := h2.2.2.2
  rw [hub] at hb2
  have H2 := Lib.hid (And.intro (And.intro h2.1 h2.2.1) (And.intro hb2 (And.intro hub h2.2.2.1)))
  have HU := Lib.hid (And.intro hU (And.intro hS hpar))
  have HB := Lib.hid (And.intro hlt (And.intro hR2 hR.base.size))
  have HUB := Lib.hid hub
  clear hR hU hS hpar hlt hR2 hb2 h2 hW hub
  go_enter Try.func37, Try.ntmps37
  go_upto_region 1 with fail
  rw [HW.out, ← HUB.out]
  have hba : Below W2.heap.size W2 (W2.alloc (.cells (([1, 0, 2, 3] : List Int).map (Value.int .i64)).toArray 3)) := (Below.refl _ _).alloc (Nat.le_refl _) _
  have HNM := Lib.hid (numR (HB.out.2.1.later hba) hrl (by omega) (g := W2.heap.size) (n := 4) (c := 4) (xs := [1, 0, 2, 3]) ⟨rfl, rowAt_of_own (World.ownsRow_lit (base := 0) (size := 1) W2 _ 4 (Nat.zero_le _) (by decide) rfl)⟩ (by have := HB.out.1; have := H2.out.2.1.size; omega) (by omega))
  have HBA := Lib.hid hba
  clear hba
  go_wp2_with fail
  refine HNM.out.mono ?_
  rintro e w3 ⟨pv, rfl, hpv, hR3, hg3⟩
  have hC5 := CoSt.start H2.out.1 H2.out.2.2.1 H2.out.2.1 HU.out.1 HU.out.2.1 ⟨HB.out.1.1, HB.out.2.2⟩ HBA.out (turned_of_grown hg3 (S := fun k => k = br) (fun k hk => (Option.some.inj hk).symm)) hR3 pv
  have hpv3 : 0 ≤ pv ∧ pv ≤ 3 := by
    simp only [List.mem_cons, List.not_mem_nil, or_false] at hpv
    omega
  clear hpv
  obtain ⟨cb, hcb⟩ : ∃ b, b = w3.heap.size := ⟨_, rfl⟩
  rw [← hcb] at hC5
  have HC5 := Lib.hid hC5
  clear hC5 hR3 hg3 HNM
  go_upto_region 2 with fail
  rw [← hcb]
  generalize w3.alloc (.cells #[.int .i64 pv, .int .i64 0, .slice none 0 0] 37) = w5 at HC5 ⊢
  clear hcb
  have x0 := cell_of_row _ _ 0 _ _ _ HC5.out.c
  have z1 := frozen_of_row _ _ 1 _ _ HC5.out.c
  simp only [List.getElem?_toArray, List.getElem?_cons_zero, List.getElem?_cons_succ] at x0
  have hxl := (Array.getElem?_eq_some_iff.1 HC5.out.c).1
  have hw5 := wrap_in (pv + 2) (by omega)
  have HP := Lib.hid (fun q => pickR (K := K + 1) (HC5.out.later (below_drewN (Below.refl w5.heap.size w5) q)).rd hrl (by omega) (n := 5) (by omega))
  go_cut [] (fun wx => ∃ rg : Int, (1 ≤ rg ∧ rg ≤ 9) ∧ Hid (CoSt w0 br ra rl rc bs w ub (ub + 1) cb us ua uc S (K + 2) pv rg [] none 0 (fun _ => False) wx))
  case first =>
    go_region_law (first | (go_simp; go_at_call 22; refine (HP.out 1).mono ?_; rintro e w6 ⟨v6, rfl, hv6, hR6, hg6⟩; (have HC6 := Lib.hid ((HC5.out.later (below_drewN (Below.refl w5.heap.size w5) 1)).drew hg6 hR6)); (have hw6 := wrap_in (pv + 2 + v6) (by omega)); (have x06 := cell_of_row _ _ 0 _ _ _ HC6.out.c); (have x16 := cell_of_row _ _ 1 _ _ _ HC6.out.c); (have z16 := frozen_of_row _ _ 1 _ _ HC6.out.c); (simp only [List.getElem?_toArray, List.getElem?_cons_zero, List.getElem?_cons_succ] at x06 x16); clear hR6 hg6))
    all_goals
      have HC7 := Lib.hid ((HC6.out.putR (pv + 2 + v6)).more (K' := K + 2) (by omega))
      have hrg1 : 1 ≤ pv + 2 + v6 ∧ pv + 2 + v6 ≤ 9 := by omega
      clear x06 x16 z16 x0 hw6 hw5
      go_wp2
      go_meet
      exact ⟨_, hrg1, HC7⟩
  case rest =>
  obtain ⟨rg, hrg, HC7⟩ := hcut
  clear HC5 HP x0 z1 hxl hw5
  generalize wc = w7 at HC7 ⊢
  have hba : Below w7.heap.size w7 (w7.alloc (.cells (([3, 5, 2, 1, 7, 4] : List Int).map (Value.int .i64)).toArray 3)) := (Below.refl _ _).alloc (Nat.le_refl _) _
  have HNM := Lib.hid (numR (HC7.out.later hba).rd hrl (by omega) (g := w7.heap.size) (n := 6) (c := 6) (xs := [3, 5, 2, 1, 7, 4]) ⟨rfl, rowAt_of_own (World.ownsRow_lit (base := 0) (size := 1) w7 _ 6 (Nat.zero_le _) (by decide) rfl)⟩ (by have := HC7.out.lo; have := HC7.out.rd.turned.size; omega) (by omega))
  have HBA7 := Lib.hid hba
  clear hba HBA HW
  go_wp2_with fail
  refine HNM.out.mono ?_
  rintro e w8 ⟨nI, rfl, hnI, hR8, hg8⟩
  have HC8 := Lib.hid ((HC7.out.later HBA7.out).drew hg8 hR8)
  obtain ⟨n, hn1, hn2⟩ : ∃ n : Nat, nI = (n : Int) ∧ (1 ≤ n ∧ n ≤ 7) := by
    simp only [List.mem_cons, List.not_mem_nil, or_false] at hnI
    exact ⟨nI.toNat, by omega, by omega⟩
  subst hn1
  clear hnI hR8 hg8 HNM HBA7 HC7
  go_wp2
  go_loopg [7] n (fun F i wr => ∃ k : Nat, k + F = n ∧ i = .int .i64 k ∧ ∃ blocks ba bc Sb, Hid (CoSt w0 br ra rl rc bs w ub (ub + 1) cb us ua uc S (K + 3 + 40 * k) pv rg blocks ba bc Sb wr ∧ blocks.length = k ∧ ∀ x ∈ blocks, szBlockD x ≤ 20))
  case atStart => exact ⟨0, by omega, rfl, [], none, 0, _, Lib.hid ⟨HC8.out.more (by omega), rfl, by simp⟩⟩
  case round =>
    obtain ⟨k, hk, rfl, blocks, ba, bc, Sb, HR⟩ := hrel
    clear HC8
    by_cases hlt : k < n
    · have hki : (k : Int) < (n : Int) := by omega
      have hlo0 : (0 : Int) ≤ (k : Int) := by omega
      have HI0 := Lib.hid HR.out.1.begin
      have HX := Lib.hid HR.out.2
      have hxl := HR.out.1.rd.turned.size
      go_upto_region 8 with fail
      obtain ⟨lo, hlo⟩ : ∃ b, b = wr.heap.size := ⟨_, rfl⟩
      rw [← hlo] at HI0
      rw [← hlo]
      generalize wr.alloc (.cells #[.slice none 0 0, .slice none 0 0, .int .i64 0, .int .i64 0, .slice none 0 0] 41) = w9 at HI0 ⊢
      clear HR hlo hxl
      have hba : Below w9.heap.size w9 (w9.alloc (.cells (([1, 2, 0, 3, 4] : List Int).map (Value.int .i64)).toArray 3)) := (Below.refl _ _).alloc (Nat.le_refl _) _
      have HNM := Lib.hid (numR (HI0.out.later hba).co.rd hrl (by omega) (g := w9.heap.size) (n := 5) (c := 5) (xs := [1, 2, 0, 3, 4]) ⟨rfl, rowAt_of_own (World.ownsRow_lit (base := 0) (size := 1) w9 _ 5 (Nat.zero_le _) (by decide) rfl)⟩ (by have := HI0.out.co.lo; have := HI0.out.co.rd.turned.size; omega) (by omega))
      have HBA9 := Lib.hid hba
      clear hba
      go_wp2_with fail
      refine HNM.out.mono ?_
      rintro e w10 ⟨mI, rfl, hmI, hR10, hg10⟩
      have HI10 := Lib.hid ((HI0.out.later HBA9.out).drew hg10 hR10)
      obtain ⟨m, hm1, hm2⟩ : ∃ m : Nat, mI = (m : Int) ∧ m ≤ 4 := by
        simp only [List.mem_cons, List.not_mem_nil, or_false] at hmI
        exact ⟨mI.toNat, by omega, by omega⟩
      subst hm1
      clear hmI hR10 hg10 HNM HBA9 HI0
      go_wp2
      go_loopg [9] m (fun F i wr => ∃ j : Nat, j + F = m ∧ i = .int .i64 ((m : Int) - (j : Int)) ∧ ∃ ins ia ic S2, Hid (InSt w0 br ra rl rc bs w ub (ub + 1) cb us ua uc S (K + 4 + 40 * k + 6 * j) pv rg blocks ba bc Sb lo lo ins ia ic 0 0 [] none 0 S2 (fun _ => False) wr ∧ ins.length = j))
      case atStart => exact ⟨0, by omega, by go_num, [], none, 0, _, Lib.hid ⟨HI10.out.more (by omega), rfl⟩⟩
      case round =>
        obtain ⟨j, hj, rfl, ins, ia, ic, S2, HI⟩ := hrel
        clear HI10
        by_cases hjm : j < m
        · have hjki : (m : Int) - (j : Int) > 0 := by omega
          have x1 := cell_of_row _ _ 1 _ _ _ HI.out.1.bk.x
          have u0 := cell_of_row _ _ 0 _ _ _ HI.out.1.co.u
          have c1 := cell_of_row _ _ 1 _ _ _ HI.out.1.co.c
          simp only [List.getElem?_toArray, List.getElem?_cons_zero, List.getElem?_cons_succ] at x1 u0 c1
          obtain ⟨cells, G, hsr⟩ := HI.out.1.bk.k
          have HSR := Lib.hid hsr
          have hxll := (Array.getElem?_eq_some_iff.1 HI.out.1.bk.x).1
          have HXL := Lib.hid hxll
          have HP := Lib.hid (fun q => l7Some_any (HI.out.1.later (below_drewN (Below.refl wr.heap.size wr) q)).now hrl (by omega) hrg.1 (HI.out.1.later (below_drewN (Below.refl wr.heap.size wr) q)).co.un (fun hs => (HI.out.1.co.su br hs).1 rfl) hul HU.out.2.2)
          clear hsr hxll
          go_upto_region 11 with fail
          go_region_law (first | (go_simp; go_at_call 56; refine (HP.out 1).mono ?_; rintro e w4 ⟨d, x, rfl, hxk, hx3, hR4⟩; (have ht4 : Turned (fun k => k = br) wr w4 := (turned_of_below (below_drewN (Below.refl wr.heap.size wr) 1) (fun k h1 h2 => by omega)).trans hR4.turned); (have HK4 := Lib.hid (HI.out.1.overR ht4 ((HI.out.1.later (below_drewN (Below.refl wr.heap.size wr) 1)).co.rd.trans hR4))); (have HS4 := Lib.hid (HI.out.1.rows HSR.out ht4)); (have HXK := Lib.hid (And.intro hxk hx3)); obtain ⟨aa, ac, rfl, hik⟩ := hxk; (have x14 := cell_of_row _ _ 1 _ _ _ HK4.out.bk.x); (simp only [List.getElem?_toArray, List.getElem?_cons_zero, List.getElem?_cons_succ] at x14); (have x15 := fun o => cell_later ((Below.refl w4.heap.size w4).alloc (Nat.le_refl _) o) x14); clear hR4 ht4 hik) | (refine step_app_ins rfl (.tmp 38) (.tmp 44) rfl 0 _ ins.length _ rfl (ownsRow_below HS4.out.own (by repeat (first | exact Below.refl _ _ | apply dg_drew | apply dg_drewN | apply dg_alloc))) _ 1 _ rfl (rowAt_cells _ _ _) rfl (by intro u hu; (simp only [List.mem_cons, List.not_mem_nil, or_false] at hu); rcases hu with rfl | rfl | rfl | rfl <;> rfl) (by have := HI.out.2; omega) (Nat.zero_le _) ?_; intro a9 c9 w9 hown9 hg9 hlies9; (have HP9 := Lib.hid (HK4.out.addIns HS4.out HXK.out.1 HXK.out.2 (fun q hq => (HI.out.1.bk.s2 q hq).2.1) ⟨HXL.out, Nat.le_of_lt HXL.out⟩ (by repeat (first | exact Below.refl _ _ | apply dg_drew | apply dg_drewN | apply dg_alloc)) hown9 hg9 hlies9)); (have t9 := cell_of_row _ _ 1 _ _ _ HP9.out.1); (have z9 := frozen_of_row _ _ 1 _ _ HP9.out.1); (simp only [List.getElem?_toArray, List.getElem?_cons_zero, List.getElem?_cons_succ] at t9); clear hown9 hg9 hlies9))
          all_goals
            obtain ⟨S2n, hI9⟩ := HP9.out.2
            have HI9 := Lib.hid (And.intro (hI9.more (K' := K + 4 + 40 * k + 6 * (j + 1)) (by omega)) (show (ins ++ [x]).length = j + 1 by rw [List.length_append, List.length_singleton, HI.out.2]))
            clear HP9 hI9 t9 z9 x1 u0 c1
            go_wp2
            go_roundg (m - (j + 1))
            case measure => omega
            case rel => exact ⟨j + 1, by omega, by go_num, _, _, _, _, HI9⟩
        · obtain rfl : j = m := by omega
          have hjki : ¬ (j : Int) - (j : Int) > 0 := by omega
          have c1 := cell_of_row _ _ 1 _ _ _ HI.out.1.co.c
          simp only [List.getElem?_toArray, List.getElem?_cons_zero, List.getElem?_cons_succ] at c1
          have hmz : (j : Int) ≤ 4 := by omega
          go_upto_region 12 with fail
          go_wp2_with fail
          refine (pickR HI.out.1.co.rd hrl (by omega) hrg.1).mono ?_
          rintro e w11 ⟨ov, rfl, hov, hR11, hg11⟩
          have HI11 := Lib.hid (HI.out.1.drew hg11 hR11)
          have x3 := cell_of_row _ _ 3 _ _ _ HI11.out.bk.x
          have z3 := frozen_of_row _ _ 3 _ _ HI11.out.bk.x
          simp only [List.getElem?_toArray, List.getElem?_cons_zero, List.getElem?_cons_succ] at x3
          have HI12 := Lib.hid (HI11.out.putO ov)
          have HIL := Lib.hid HI.out.2
          clear hR11 hg11 c1 hov HI
          go_upto_region 13 with fail
          generalize w11.setCell ⟨lo, 3, none⟩ (.int .i64 ov) = w12 at HI12 ⊢
          clear HI11 x3 z3
          have hba : Below w12.heap.size w12 (w12.alloc (.cells (([2, 1, 2, 1, 3] : List Int).map (Value.int .i64)).toArray 3)) := (Below.refl _ _).alloc (Nat.le_refl _) _
          have HNM := Lib.hid (numR (HI12.out.later hba).co.rd hrl (by omega) (g := w12.heap.size) (n := 5) (c := 5) (xs := [2, 1, 2, 1, 3]) ⟨rfl, rowAt_of_own (World.ownsRow_lit (base := 0) (size := 1) w12 _ 5 (Nat.zero_le _) (by decide) rfl)⟩ (by have := HI12.out.co.lo; have := HI12.out.co.rd.turned.size; omega) (by omega))
          have HBA12 := Lib.hid hba
          clear hba
          go_wp2_with fail
          refine HNM.out.mono ?_
          rintro e w13 ⟨jv, rfl, hjv, hR13, hg13⟩
          have HI13 := Lib.hid ((HI12.out.later HBA12.out).drew hg13 hR13)
          have x2 := cell_of_row _ _ 2 _ _ _ HI13.out.bk.x
          have z2 := frozen_of_row _ _ 2 _ _ HI13.out.bk.x
          simp only [List.getElem?_toArray, List.getElem?_cons_zero, List.getElem?_cons_succ] at x2
          have HI14 := Lib.hid (HI13.out.putJ jv)
          have hjv3 : 1 ≤ jv ∧ jv ≤ 3 := by
            simp only [List.mem_cons, List.not_mem_nil, or_false] at hjv
            omega
          clear hR13 hg13 hjv HNM HBA12 HI12
          go_upto_region 14 with fail
          generalize w13.setCell ⟨lo, 2, none⟩ (.int .i64 jv) = w14 at HI14 ⊢
          clear HI13 x2 z2
          have x2 := cell_of_row _ _ 2 _ _ _ HI14.out.bk.x
          have z2 := frozen_of_row _ _ 2 _ _ HI14.out.bk.x
          simp only [List.getElem?_toArray, List.getElem?_cons_zero, List.getElem?_cons_succ] at x2
          go_cut [68] (fun tv wx => ∃ b : Bool, tv = .bool b ∧ (n = 1 → b = true) ∧ Hid (InSt w0 br ra rl rc bs w ub (ub + 1) cb us ua uc S (K + 7 + 40 * k + 6 * j) pv rg blocks ba bc Sb lo lo ins ia ic jv ov [] none 0 S2 (fun _ => False) wx))
          case first =>
            have HO := Lib.hid (HI14.out.more (K' := K + 7 + 40 * k + 6 * j) (by omega))
            clear x2 z2
            by_cases hn1 : n = 1
            · have d1 : ((n : Int) == 1) = true := by simp [hn1]
              clear hn1
              go_wp2
              go_meet
              exact ⟨true, rfl, fun _ => rfl, HO⟩
            · have d1 : ((n : Int) == 1) = false := by simp; omega
              by_cases hkn : (k : Int) = (n : Int) - 1
              · have d2 : ((k : Int) == (n : Int) - 1) = true := by simp [hkn]
                clear hkn
                go_wp2_with fail
                refine (pickR HI14.out.co.rd hrl (by omega) (n := 3) (by omega)).mono ?_
                rintro e w15 ⟨pk, rfl, hpk, hR15, hg15⟩
                have HI15 := Lib.hid (HI14.out.drew hg15 hR15)
                clear hR15 hg15 HI14 HO
                have HO := Lib.hid (HI15.out.more (K' := K + 7 + 40 * k + 6 * j) (by omega))
                by_cases hp0 : pk > 0
                · go_wp2
                  go_meet
                  exact ⟨true, rfl, fun _ => rfl, HO⟩
                · obtain rfl : pk = 0 := by omega
                  go_wp2
                  go_meet
                  exact ⟨false, rfl, fun h => absurd h hn1, HO⟩
              · have d2 : ((k : Int) == (n : Int) - 1) = false := by simp; omega
                clear hkn
                go_wp2
                go_meet
                exact ⟨false, rfl, fun h => absurd h hn1, HO⟩
          case rest =>
          obtain ⟨bj, rfl, hbj, HJ0⟩ := hcut
          clear HI14 x2 z2
          have x2 := cell_of_row _ _ 2 _ _ _ HJ0.out.bk.x
          have z2 := frozen_of_row _ _ 2 _ _ HJ0.out.bk.x
          simp only [List.getElem?_toArray, List.getElem?_cons_zero, List.getElem?_cons_succ] at x2
          cases bj
          case' true =>
            have HF := Lib.hid (show ∃ S3, InSt w0 br ra rl rc bs w ub (ub + 1) cb us ua uc S (K + 11 + 40 * k + 6 * j) pv rg blocks ba bc Sb lo lo ins ia ic 3 ov [] none 0 S2 S3 (wc.setCell ⟨lo, 2, none⟩ (.int .i64 3)) ∧ ([] : List Int).length ≤ 2 from ⟨_, (HJ0.out.putJ 3).more (by omega), by simp⟩)
            go_upto_region 22 with fail
            generalize wc.setCell ⟨lo, 2, none⟩ (.int .i64 3) = w22 at HF ⊢
            clear x2 z2 hjv3 hbj HJ0
          case' false =>
            have hn2' : 2 ≤ n := by
              rcases Nat.lt_or_ge n 2 with h | h
              · exact absurd (hbj (by omega)) (by simp)
              · exact h
            rcases (show jv = 1 ∨ jv = 2 ∨ jv = 3 by omega) with rfl | rfl | rfl
            case' inl =>
              have x3 := cell_of_row _ _ 3 _ _ _ HJ0.out.bk.x
              have z3 := frozen_of_row _ _ 3 _ _ HJ0.out.bk.x
              simp only [List.getElem?_toArray, List.getElem?_cons_zero, List.getElem?_cons_succ] at x3
              have HJ1 := Lib.hid (HJ0.out.putO 0)
              go_upto_region 19 with fail
              generalize wc.setCell ⟨lo, 3, none⟩ (.int .i64 0) = w18 at HJ1 ⊢
              clear x2 z2 x3 z3 HJ0 hbj
              go_wp2_with fail
              refine (l7To_any HJ1.out.now hrl (by omega) hlt hn2' (by omega)).mono ?_
              rintro e w19 ⟨v1, rfl, hv1, hR19⟩
              have HJ2 := Lib.hid (HJ1.out.overR hR19.turned (HJ1.out.co.rd.trans hR19))
              clear hR19 HJ1 hv1
              have x4 := cell_of_row _ _ 4 _ _ _ HJ2.out.bk.x
              have z4 := frozen_of_row _ _ 4 _ _ HJ2.out.bk.x
              simp only [List.getElem?_toArray, List.getElem?_cons_zero, List.getElem?_cons_succ] at x4
              have hba : Below w19.heap.size w19 (w19.alloc (.cells (([v1] : List Int).map (Value.int .i64)).toArray 3)) := (Below.refl _ _).alloc (Nat.le_refl _) _
              have hxl := (Array.getElem?_eq_some_iff.1 HJ2.out.bk.x).1
              have hnx := (HJ2.out.nexts hba (nb := w19.heap.size) (nc := 1) [v1] (World.ownsRow_lit (base := 0) (size := 1) w19 _ 1 (Nat.zero_le _) (by decide) rfl) ⟨Nat.le_refl _, by simp⟩).more (K' := K + 11 + 40 * k + 6 * j) (by omega)
              rw [World.setCell_alloc_past _ _ _ _ hxl] at hnx
              have HF := Lib.hid (show ∃ S3, InSt w0 br ra rl rc bs w ub (ub + 1) cb us ua uc S (K + 11 + 40 * k + 6 * j) pv rg blocks ba bc Sb lo lo ins ia ic 1 0 [v1] (some ⟨w19.heap.size, 0, none⟩) 1 S2 S3 ((w19.setCell ⟨lo, 4, none⟩ (.slice (some ⟨w19.heap.size, 0, none⟩) 1 1)).alloc (.cells #[.int .i64 v1] 3)) ∧ [v1].length ≤ 2 from ⟨_, hnx, by simp⟩)
              clear hnx hba
              go_upto_region 22 with fail
              generalize ((w19.setCell ⟨lo, 4, none⟩ (.slice (some ⟨w19.heap.size, 0, none⟩) 1 1)).alloc (.cells #[.int .i64 v1] 3)) = w22 at HF ⊢
              clear x4 z4 hxl
              clear HJ2 hn2'
            case' inr.inl =>
              go_upto_region 21 with fail
              clear x2 z2 hbj
              go_wp2_with fail
              refine (l7To_any HJ0.out.now hrl (by omega) hlt hn2' (by omega)).mono ?_
              rintro e w18 ⟨v1, rfl, hv1, hR18⟩
              have HJ1 := Lib.hid (HJ0.out.overR hR18.turned (HJ0.out.co.rd.trans hR18))
              clear hR18 HJ0 hv1
              go_wp2_with fail
              refine (l7To_any HJ1.out.now hrl (by omega) hlt hn2' (by omega)).mono ?_
              rintro e w19 ⟨v2, rfl, hv2, hR19⟩
              have HJ2 := Lib.hid (HJ1.out.overR hR19.turned (HJ1.out.co.rd.trans hR19))
              clear hR19 HJ1 hv2
              have x4 := cell_of_row _ _ 4 _ _ _ HJ2.out.bk.x
              have z4 := frozen_of_row _ _ 4 _ _ HJ2.out.bk.x
              simp only [List.getElem?_toArray, List.getElem?_cons_zero, List.getElem?_cons_succ] at x4
              have hba : Below w19.heap.size w19 (w19.alloc (.cells (([v1, v2] : List Int).map (Value.int .i64)).toArray 3)) := (Below.refl _ _).alloc (Nat.le_refl _) _
              have hxl := (Array.getElem?_eq_some_iff.1 HJ2.out.bk.x).1
              have hnx := (HJ2.out.nexts hba (nb := w19.heap.size) (nc := 2) [v1, v2] (World.ownsRow_lit (base := 0) (size := 1) w19 _ 2 (Nat.zero_le _) (by decide) rfl) ⟨Nat.le_refl _, by simp⟩).more (K' := K + 11 + 40 * k + 6 * j) (by omega)
              rw [World.setCell_alloc_past _ _ _ _ hxl] at hnx
              have HF := Lib.hid (show ∃ S3, InSt w0 br ra rl rc bs w ub (ub + 1) cb us ua uc S (K + 11 + 40 * k + 6 * j) pv rg blocks ba bc Sb lo lo ins ia ic 2 ov [v1, v2] (some ⟨w19.heap.size, 0, none⟩) 2 S2 S3 ((w19.setCell ⟨lo, 4, none⟩ (.slice (some ⟨w19.heap.size, 0, none⟩) 2 2)).alloc (.cells #[.int .i64 v1, .int .i64 v2] 3)) ∧ [v1, v2].length ≤ 2 from ⟨_, hnx, by simp⟩)
              clear hnx hba
              go_upto_region 22 with fail
              generalize ((w19.setCell ⟨lo, 4, none⟩ (.slice (some ⟨w19.heap.size, 0, none⟩) 2 2)).alloc (.cells #[.int .i64 v1, .int .i64 v2] 3)) = w22 at HF ⊢
              clear x4 z4 hxl
              clear HJ2 hn2'
            case' inr.inr =>
              have HF := Lib.hid (show ∃ S3, InSt w0 br ra rl rc bs w ub (ub + 1) cb us ua uc S (K + 11 + 40 * k + 6 * j) pv rg blocks ba bc Sb lo lo ins ia ic 3 ov [] none 0 S2 S3 wc ∧ ([] : List Int).length ≤ 2 from ⟨_, HJ0.out.more (by omega), by simp⟩)
              go_upto_region 22 with fail
              generalize wc = w22 at HF ⊢
              clear x2 z2 hbj HJ0 hn2'
          all_goals
            obtain ⟨S3, hI, hnxl⟩ := HF.out
            have HI := Lib.hid hI
            clear HF
            have c2 := cell_of_row _ _ 2 _ _ _ hI.co.c
            have g2 := frozen_of_row _ _ 2 _ _ hI.co.c
            have x0 := cell_of_row _ _ 0 _ _ _ hI.bk.x
            have x1 := cell_of_row _ _ 1 _ _ _ hI.bk.x
            have x2 := cell_of_row _ _ 2 _ _ _ hI.bk.x
            have x3 := cell_of_row _ _ 3 _ _ _ hI.bk.x
            have x4 := cell_of_row _ _ 4 _ _ _ hI.bk.x
            simp only [List.getElem?_toArray, List.getElem?_cons_zero, List.getElem?_cons_succ] at c2 x0 x1 x2 x3 x4
            obtain ⟨cells, G, hsr⟩ := hI.co.k
            have HSR := Lib.hid hsr
            clear hsr hI
            go_wp2_with (at_builtin; refine app_block rfl (.tmp 94) (.tmp 96) rfl 0 _ blocks.length _ rfl (ownsRow_below HSR.out.own (by repeat (first | exact Below.refl _ _ | apply dg_drew | apply dg_drewN | apply dg_alloc))) _ 1 _ rfl (rowAt_cells _ _ _) rfl (by intro u hu; (simp only [List.mem_cons, List.not_mem_nil, or_false] at hu); rcases hu with rfl | rfl | rfl | rfl | rfl <;> rfl) (by have := HX.out.1; omega) (Nat.zero_le _) ?_; intro a9 c9 w9 hown9 hg9 hlies9; (have HP9 := Lib.hid (HI.out.push HSR.out (by repeat (first | exact Below.refl _ _ | apply dg_drew | apply dg_drewN | apply dg_alloc)) hown9 hg9 hlies9)); (have t9 := cell_of_row _ _ 2 _ _ _ HP9.out.1); (have z9 := frozen_of_row _ _ 2 _ _ HP9.out.1); (simp only [List.getElem?_toArray, List.getElem?_cons_zero, List.getElem?_cons_succ] at t9); clear hown9 hg9 hlies9)
            obtain ⟨bl9, ba9, bc9, Sb9, hC9⟩ := CoSt.pushed HP9.out.2 HX.out (by have := HIL.out; omega) HI.out.small hnxl (show _ ≤ K + 3 + 40 * (k + 1) by omega)
            have HC9 := Lib.hid hC9
            clear HP9 hC9 t9 z9 c2 g2 x0 x1 x2 x3 x4 HSR HI HX HIL
            go_roundg (n - (k + 1))
            case measure => omega
            case rel => exact ⟨k + 1, by omega, by go_num, _, _, _, _, HC9⟩
    · obtain rfl : k = n := by omega
      have x0 := cell_of_row _ _ 0 _ _ _ HR.out.1.c
      have x1 := cell_of_row _ _ 1 _ _ _ HR.out.1.c
      have x2 := cell_of_row _ _ 2 _ _ _ HR.out.1.c
      have r0 := cell_of_row _ _ 0 _ _ _ HR.out.1.r
      have r1 := cell_of_row _ _ 1 _ _ _ HR.out.1.r
      have r2 := cell_of_row _ _ 2 _ _ _ HR.out.1.r
      have y0 := frozen_of_row _ _ 0 _ _ HR.out.1.r
      have y1 := frozen_of_row _ _ 1 _ _ HR.out.1.r
      have y2 := frozen_of_row _ _ 2 _ _ HR.out.1.r
      simp only [List.getElem?_toArray, List.getElem?_cons_zero, List.getElem?_cons_succ] at x0 x1 x2 r0 r1 r2
      go_wp2
      have HP := Lib.hid (put3g HR.out.1.r (.int .i64 pv) (.int .i64 rg) (.slice ba blocks.length bc))
      generalize ((wr.setCell ⟨ub + 1, 0, none⟩ (.int .i64 pv)).setCell ⟨ub + 1, 1, none⟩ (.int .i64 rg)).setCell ⟨ub + 1, 2, none⟩ (.slice ba blocks.length bc) = W9 at HP ⊢
      refine bodyPost_ret (results_cell_row rfl _ _ (ub + 1) 37 #[.int .i64 pv, .int .i64 rg, .slice ba blocks.length bc] (0, 0) _ rfl ?_ Try.underlying37 rfl (by kernel_rfl)) rfl ?_
      · exact HP.out.1
      · exact HR.out.1.fin HP.out.2 ⟨hpv3, hrg, by have := HR.out.2.1; simpa [this] using hn2, HR.out.2.2⟩ (by omega)
end

end Go.Proofs.Ytajnldkempeheaa
