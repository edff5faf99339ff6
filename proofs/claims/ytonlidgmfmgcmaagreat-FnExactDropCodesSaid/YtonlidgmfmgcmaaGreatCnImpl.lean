
/-
  CodesNeeded, the program's.
-/
import Derived.Test.YtonlidgmfmgcmaaGreatCn
import Derived.Test.YtonlidgmfmgcmaaGreatFlags
import Derived.Test.YtonlidgmfmgcmaaGreatUvUnit
import Derived.Deep.DeepCutAuto
namespace Go.Proofs.YtonlidgmfmgcmaaGreat
open Go.RowKit

set_option maxRecDepth 100000 in
set_option maxHeartbeats 1000000 in
theorem calleeAt_any (params regs : Int) (blocks : List BlockD) (ba : Option Addr) (bc cb b i : Nat) (x : BlockD) (y : InsD) (hx : blocks[b]? = some x) (hy : x.ins[i]? = some y) (pa : Option Addr) (pc : Nat) (w : World)
    (hc : w.heap[cb]? = some (.cells #[.int .i64 params, .int .i64 regs, .slice ba blocks.length bc] 52 (0, 0))) (hrd : SliceRd 5 BlockR w ba blocks.length blocks) (hp : IntsRd w pa 2 [(b : Int), (i : Int)]) :
    Calls Tryz.prog 45 #[.slice pa 2 pc, .pointer (some ⟨cb, 0, none⟩)] w fun e w' => e = .returned (.int .i64 y.num) ∧ Below w.heap.size w w' := by
  have k2 : w.cell? ⟨cb, 2, none⟩ = some (.slice ba blocks.length bc) := cell_of_row _ _ 2 _ _ _ hc
  obtain ⟨e0b, e0o, e0x, e0a, e0h, hq0⟩ := hp.place (i := 0) (by simp)
  obtain ⟨e1b, e1o, e1x, e1a, e1h, hq1⟩ := hp.place (i := 1) (by simp)
  rw [e0a] at e1a
  cases e1a
  subst e0a
  simp only [List.getElem?_cons_zero, List.getElem?_cons_succ, Option.some.injEq] at e0h e1h
  subst e0h e1h
  rw [Nat.add_zero] at hq0
  have hbl : b < blocks.length := (List.getElem?_eq_some_iff.1 hx).1
  obtain ⟨bb, bo, phis, ins, jump, jon, nx, pa2, pc2, ia, ic, na, nc, rfl, hx2, _, f1, _, _, _, hBR⟩ := block_place hrd hbl
  rw [hx] at hx2
  cases hx2
  obtain ⟨_, _, _, _, _, _, hbs, _, hins, _⟩ := hBR
  simp only [List.cons.injEq, Value.slice.injEq, and_true, true_and] at hbs
  obtain ⟨_, ⟨rfl, rfl⟩, _⟩ := hbs
  have hy : ins[i]? = some y := hy
  have hil : i < ins.length := (List.getElem?_eq_some_iff.1 hy).1
  obtain ⟨ib, io, op, tr, args, num, aa, ac, rfl, hy2, _, _, _, g3, _⟩ := ins_place hins.2 hil
  rw [hy] at hy2
  cases hy2
  have hbi : (b : Int) < (blocks.length : Int) := by omega
  have hii : (i : Int) < (ins.length : Int) := by omega
  clear hx hy hins hrd hp hc
  go_enter Tryz.func45, Tryz.ntmps45
  go_wp2_with fail
  go_quiet (fail)
  go_wp2
  go_ret
  exact ⟨rfl, below_drewN (Below.refl _ _) _⟩

/-- The function value answers q of each row, and changes nothing that was there. -/
structure IntOfFn (w : World) (f : Nat) (caps : Array Value) (rows : List Hd) (q : List Int → Int) : Prop where
  enter : ∀ v W, (callFunc f (#[v] ++ caps)).run Tryz.prog W = .ok (.enter f (#[v] ++ caps)) W
  calls : ∀ r ∈ rows, ∀ W, Below w.heap.size w W → Calls Tryz.prog f (#[r.val] ++ caps) W fun e w' => e = .returned (.int .i64 (q r.xs)) ∧ Below W.heap.size W w'

set_option maxRecDepth 100000 in
set_option maxHeartbeats 1000000 in
theorem mappedI_any (f : Nat) (caps : Array Value) (q : List Int → Int) (a : Option Addr) (len cap : Nat) (rows : List Hd) (w : World) (hin : MatRd w a len rows) (hf : IntOfFn w f caps rows q) (hs : len ≤ 1048576) :
    Calls Tryz.prog 43 #[.slice a len cap, .func (.func f) #[] caps] w fun e w' => RetInts w ((rows.map Hd.xs).map q) len e w' := by
  have hen := hf.enter
  have HL := Lib.hid hin.length
  go_enter Tryz.func43, Tryz.ntmps43
  go_wp2_with fail
  go_loopg [5, 10] len (fun F o i wr => ∃ k : Nat, k + F = len ∧ i = .int .i64 k ∧ ∃ oa oc, o = .slice oa k oc ∧ Hid (wr.ownsRow w.heap.size 3 1 (.slice oa k oc) k ((((rows.map Hd.xs).map q).take k).map (Value.int .i64)) ∧ Below w.heap.size w wr))
  case atStart => exact ⟨0, by omega, rfl, none, 0, rfl, Lib.hid ⟨World.ownsRow_nil _ _ _ _, Below.refl _ _⟩⟩
  case round =>
    obtain ⟨k, hk, rfl, oa, oc, rfl, HK⟩ := hrel
    by_cases hlt : k < len
    · obtain ⟨b, off, ai, ci, xs, rfl, hx, hc, hi⟩ := (hin.later HK.out.2).place hlt
      have HC := Lib.hid (show Calls Tryz.prog f (#[.slice ai xs.length ci] ++ caps) wr (fun e w' => e = .returned (.int .i64 (q xs)) ∧ Below wr.heap.size wr w') from hf.calls _ (List.mem_of_getElem? hx) wr HK.out.2)
      have HX := Lib.hid (show ((rows.map Hd.xs).map q)[k]? = some (q xs) by rw [List.getElem?_map, List.getElem?_map, hx]; rfl)
      have hki : (k : Int) < (len : Int) := by omega
      clear hx hi
      go_wp2_with fail
      refine HC.out.mono ?_
      rintro e w1 ⟨rfl, hb1⟩
      have hrow := ownsRow_below HK.out.1 hb1
      have hb := HK.out.2.trans (hb1.mono HK.out.2.size)
      have hsz := hb.size
      clear hb1 hc
      generalize q xs = v at HX ⊢
      go_wp2_with (at_builtin; refine app_ints rfl (.tmp 14) (.tmp 18) rfl w.heap.size _ k _ rfl (hrow.alloc _) _ 1 _ [v] rfl rfl (rowAt_one _ _ _) (by rintro ⟨⟩) (by omega) (by simp only [World.size_alloc]; omega) ?_; intro a5 c5 w5 hown5 hg5 hlies5)
      have HN := Lib.hid (And.intro hown5 ((hb.alloc hsz _).grown hg5 (by simp only [World.size_alloc]; omega) (fun j hj => (hrow.lt j hj).1)))
      clear hown5 hg5 hlies5 hrow hb hsz
      go_roundg (gk - 1)
      case measure => omega
      case rel => exact ⟨k + 1, by omega, by go_num, a5, c5, rfl, Lib.hid (by rw [take_succ_of HX.out, List.map_append]; exact HN.out)⟩
    · obtain rfl : k = len := by omega
      have HE := Lib.hid (show ((rows.map Hd.xs).map q).take k = (rows.map Hd.xs).map q from List.take_of_length_le (by rw [List.length_map, List.length_map, HL.out]; omega))
      go_wp2
      go_ret
      have h := HK.out
      rw [HE.out] at h
      exact ⟨_, _, rfl, h.1, h.2⟩

/-- The codes that a code calls. -/
theorem callees_row {us : List CodeD} {k : Nat} {c : CodeD} (h : us[k]? = some c) {rows : List Hd} (hx : rows.map Hd.xs = callsBl c.blocks c.blocks.length) : (rows.map Hd.xs).map (numAt c.blocks) = callees us k := by rw [hx, callees_of h]

set_option maxRecDepth 100000 in
set_option maxHeartbeats 2000000 in
theorem leads_any (us : List CodeD) (ua : Option Addr) (uc : Nat) (hsz : szS szCodeD us ≤ 1048576) (ub k : Nat) (hk : k < us.length) (w : World) (hU : SliceRd 3 CodeR w ua us.length us) (hub : w.heap[ub]? = some (.cells #[.slice ua us.length uc] 30 (0, 0))) :
    Calls Tryz.prog 42 #[.int .i64 (k : Int), .pointer (some ⟨ub, 0, none⟩)] w fun e w' => RetInts w (callees us k) (callees us k).length e w' := by
  have hmf : ∀ (fn : Fn) (first cap : Array Value) (w : World), (Instr.makeFunc fn first cap).run Tryz.prog w = .ok (.func fn first cap) w := fun _ _ _ _ => rfl
  have hu0 : w.cell? ⟨ub, 0, none⟩ = some (.slice ua us.length uc) := cell_of_row _ _ 0 _ _ _ hub
  obtain ⟨b1, o1, params, regs, blocks, ba, bc, rfl, hx, c0, c1, c2, hCR⟩ := code_place hU hk
  have hz := (szS_get (sz := szCodeD) hsz hx).1
  have hki : (k : Int) < (us.length : Int) := by omega
  have hb0 : Below w.heap.size w (w.alloc (.cells #[.int .i64 params, .int .i64 regs, .slice ba blocks.length bc] 52)) := (Below.refl _ _).alloc (Nat.le_refl _) _
  have hrow := heap_alloc_new w (.cells #[.int .i64 params, .int .i64 regs, .slice ba blocks.length bc] 52)
  have k0 := cell_of_row _ _ 0 _ _ _ hrow
  have k1 := cell_of_row _ _ 1 _ _ _ hrow
  have k2 := cell_of_row _ _ 2 _ _ _ hrow
  simp only [List.getElem?_toArray, List.getElem?_cons_zero, List.getElem?_cons_succ] at k0 k1 k2
  have HP := Lib.hid (callPlaces_any _ ⟨params, regs, blocks⟩ _ (codeR_lasts _ _ _ _ hb0 hCR) hz)
  have hcl : (callsBl blocks blocks.length).length ≤ 1048576 := by
    have h1 := callsBl_len blocks blocks.length
    rw [List.take_length] at h1
    have h2 := sumOf_le inN_le blocks
    unfold szCodeD szS at hz
    simp only at hz
    omega
  have HR := Lib.hid (And.intro hb0 (And.intro hrow (And.intro hx hCR)))
  clear hrow hb0 hU hx hCR hz hub
  go_enter Tryz.func42, Tryz.ntmps42
  go_wp2_with fail
  generalize w.alloc (.cells #[.int .i64 params, .int .i64 regs, .slice ba blocks.length bc] 52) = W1 at HP HR k0 k1 k2 ⊢
  refine HP.out.mono ?_
  show ∀ e w', RetMat W1 (callsBl blocks blocks.length) (callsBl blocks blocks.length).length e w' → _
  rintro e w2 ⟨a2, n2, rows, rfl, hm2, hx2, hb2⟩
  have hrl : rows.length = (callsBl blocks blocks.length).length := by rw [← hx2, List.length_map]
  have HM := Lib.hid (And.intro hm2.at.toMatRd (And.intro hx2 (And.intro (HR.out.1.trans (hb2.mono HR.out.1.size)) ((hb2.block _ (Array.getElem?_eq_some_iff.1 HR.out.2.1).1).trans HR.out.2.1))))
  have HE := Lib.hid (show (rows.map Hd.xs).map (numAt blocks) = callees us k from callees_row (c := ⟨params, regs, blocks⟩) HR.out.2.2.1 hx2)
  rw [← hrl]
  have hcl2 : rows.length ≤ 1048576 := by omega
  have HRL := Lib.hid hrl
  clear hm2 hx2 hb2 k0 k1 k2 HP hrl hcl
  have HFn := Lib.hid (⟨fun _ _ => rfl, fun x hxr W hW => by
    have hp : x.xs ∈ callsBl blocks blocks.length := by rw [← HM.out.2.1]; exact List.mem_map_of_mem hxr
    obtain ⟨b, i, X, y, he, hbx, hiy, _⟩ := callsBl_mem _ hp
    rw [he, numAt_of hbx hiy]
    have hrd := (HM.out.1.rows x hxr).later hW
    have hxl : x.xs.length = 2 := by rw [he]; rfl
    have hv : x.val = .slice x.a 2 x.cap := by rw [Hd.val, hxl]
    rw [hv]
    rw [hxl, he] at hrd
    have hBW := HM.out.2.2.1.trans (hW.mono HM.out.2.2.1.size)
    obtain ⟨_, _, hcs, _, hrdb⟩ := codeR_lasts _ _ _ _ hBW HR.out.2.2.2
    simp only [List.cons.injEq, Value.slice.injEq, and_true, true_and] at hcs
    obtain ⟨rfl, rfl⟩ := hcs
    exact calleeAt_any params regs blocks _ _ w.heap.size b i X y hbx hiy x.a x.cap W ((hW.block _ (Array.getElem?_eq_some_iff.1 HM.out.2.2.2).1).trans HM.out.2.2.2) hrdb hrd⟩ : IntOfFn w2 45 #[.pointer (some ⟨w.heap.size, 0, none⟩)] rows (numAt blocks))
  go_wp2_with fail
  refine (mappedI_any _ _ (numAt blocks) a2 rows.length n2 rows w2 (by rw [HRL.out]; exact HM.out.1) HFn.out hcl2).mono ?_
  rw [HE.out]
  rintro e w3 ⟨a3, c3, rfl, hown3, hb3⟩
  have hlc : (callees us k).length = rows.length := by rw [← HE.out, List.length_map, List.length_map]
  have HO := Lib.hid (And.intro (own_lower hown3 (base' := w.heap.size) (fun j hj => Nat.le_trans HM.out.2.2.1.size (hown3.lt j hj).1)) (HM.out.2.2.1.trans (hb3.mono HM.out.2.2.1.size)))
  have HLC := Lib.hid hlc
  clear hown3 hb3 hlc
  go_wp2
  go_ret
  rw [HLC.out]
  exact ⟨_, _, rfl, HO.out.1, HO.out.2⟩

/-! ### the visit -/
def memS (S : List Int) : Int → Bool := fun z => decide (z ∈ S)
theorem flagsAt_blk {w : World} {M n : Nat} {G : Int → Bool} (h : FlagsAt w M n G) : ∃ es c, w.heap[M]? = some (.map es c) := by
  obtain ⟨D, ⟨es, clock, hM, _⟩, _⟩ := h
  exact ⟨es, clock, hM⟩
theorem cells_aside {w w' : World} {M k : Nat} {C : Array Value} {t : TypeId} {es : Array MapEntry} {c : Nat} (hM : w.heap[M]? = some (.map es c)) (hg : w.grownBy w' (some M)) (hk : w.heap[k]? = some (.cells C t (0, 0))) : w'.heap[k]? = some (.cells C t (0, 0)) :=
  (hg.block k (Array.getElem?_eq_some_iff.1 hk).1 (fun e => by cases e; rw [hM] at hk; cases hk)).trans hk
theorem own_aside {w w' : World} {M base n : Nat} {v : Value} {xs : List Value} {es : Array MapEntry} {c : Nat} (hM : w.heap[M]? = some (.map es c)) (hg : w.grownBy w' (some M)) (h : w.ownsRow base 3 1 v n xs) : w'.ownsRow base 3 1 v n xs :=
  own_turned h (turned_of_grown hg (S := fun k => k = M) (fun k hk => by cases hk; rfl)) (fun k hk e => by
    subst e
    obtain ⟨cur, hc⟩ := own_type h hk
    rw [hM] at hc
    cases hc)
theorem grown_then_below {a b c : World} {row : Option Nat} (h : a.grownBy b row) (hb : Below b.heap.size b c) : a.grownBy c row :=
  ⟨hb.os.trans h.os, hb.tape.trans h.tape, hb.output.trans h.output, Nat.le_trans h.size hb.size, fun k hk hne => (hb.block k (Nat.lt_of_lt_of_le hk h.size)).trans (h.block k hk hne)⟩
def fvV (mb lb vb : Nat) : Value := .func (.func 67) #[] #[.pointer (some ⟨mb, 0, none⟩), .pointer (some ⟨lb, 0, none⟩), .pointer (some ⟨vb, 0, none⟩)]
def fvL (ub : Nat) : Value := .func (.func 42) #[] #[.pointer (some ⟨ub, 0, none⟩)]
/-- The boxes of the closure, and the map. -/
structure CV (us : List CodeD) (ua : Option Addr) (uc ub : Nat) (w0 : World) (mb lb vb M : Nat) (S : List Int) (w : World) : Prop where
  below : Below w0.heap.size w0 w
  m : w.heap[mb]? = some (.cells #[.map (some M)] 91 (0, 0))
  l : w.heap[lb]? = some (.cells #[fvL ub] 74 (0, 0))
  v : w.heap[vb]? = some (.cells #[fvV mb lb vb] 92 (0, 0))
  u : w.heap[ub]? = some (.cells #[.slice ua us.length uc] 30 (0, 0))
  flags : FlagsAt w M S.length (memS S)
  lo : w0.heap.size ≤ M
  vs : VS2 us.length S
theorem CV.later {us : List CodeD} {ua : Option Addr} {uc ub : Nat} {w0 : World} {mb lb vb M : Nat} {S : List Int} {w w' : World} (H : CV us ua uc ub w0 mb lb vb M S w) (hb : Below w.heap.size w w') : CV us ua uc ub w0 mb lb vb M S w' := by
  have lt : ∀ {k : Nat} {o : Obj}, w.heap[k]? = some o → w'.heap[k]? = some o := fun hk => (hb.block _ (Array.getElem?_eq_some_iff.1 hk).1).trans hk
  exact ⟨H.below.trans (hb.mono H.below.size), lt H.m, lt H.l, lt H.v, lt H.u, H.flags.later hb, H.lo, H.vs⟩
theorem CV.put {us : List CodeD} {ua : Option Addr} {uc ub : Nat} {w0 : World} {mb lb vb M n : Nat} {S : List Int} {w w' : World} (H : CV us ua uc ub w0 mb lb vb M S w) (hn : n < us.length) (hm : ¬ (n : Int) ∈ S) (hg : w.grownBy w' (some M)) (hf : FlagsAt w' M (S.length + 1) (fun j => decide (j = (n : Int)) || memS S j)) : CV us ua uc ub w0 mb lb vb M ((n : Int) :: S) w' := by
  obtain ⟨es, c, hM⟩ := flagsAt_blk H.flags
  refine ⟨H.below.grown hg H.below.size (fun j hj => by cases hj; exact H.lo), cells_aside hM hg H.m, cells_aside hM hg H.l, cells_aside hM hg H.v, cells_aside hM hg H.u, hf.same (fun j => ?_), H.lo, H.vs.cons hn hm⟩
  unfold memS
  rw [← Bool.decide_or]
  exact decide_eq_decide.2 List.mem_cons.symm

set_option maxRecDepth 100000 in
set_option maxHeartbeats 4000000 in
theorem closure1_any (us : List CodeD) (hu : unitB us = true) (hsz : szS szCodeD us ≤ 1048576) (ua : Option Addr) (uc ub : Nat) (w0 : World) (hU : SliceRd 3 CodeR w0 ua us.length us) (mb lb vb M : Nat) : ∀ (f n : Nat) (S : List Int) (w : World),
    CV us ua uc ub w0 mb lb vb M S w → n < us.length → n < f →
    Calls Tryz.prog 67 #[.int .i64 (n : Int), .pointer (some ⟨mb, 0, none⟩), .pointer (some ⟨lb, 0, none⟩), .pointer (some ⟨vb, 0, none⟩)] w fun e w' =>
      e = .returned (.tuple #[]) ∧ CV us ua uc ub w0 mb lb vb M (visN us f n S) w' ∧ w.grownBy w' (some M) := by
  intro f
  induction f with
  | zero => intro n S w _ _ h; omega
  | succ f ih =>
    intro n S w hV hn hnf
    have hul : us.length ≤ 1048576 := Nat.le_trans (szS_len szCodeD us) hsz
    have hm0 : w.cell? ⟨mb, 0, none⟩ = some (.map (some M)) := cell_of_row _ _ 0 _ _ _ hV.m
    have hwf : (Lit.int .i64 (n : Int)).wf = true := WalkArith.wf_i64 (by omega)
    have hlk := hV.flags.look hwf
    by_cases hm : (n : Int) ∈ S
    · have HR := Lib.hid (show CV us ua uc ub w0 mb lb vb M (visN us (f + 1) n S) w by rw [visN, if_pos hm]; exact hV)
      rw [show memS S (n : Int) = true from decide_eq_true hm] at hlk
      clear hm hV ih
      go_enter Tryz.func67, Tryz.ntmps67
      go_wp2
      go_end0
      exact ⟨rfl, HR.out, World.grownBy.refl _ _⟩
    · have hen : ∀ v W, (callFunc 67 (#[v] ++ #[.pointer (some ⟨mb, 0, none⟩), .pointer (some ⟨lb, 0, none⟩), .pointer (some ⟨vb, 0, none⟩)])).run Tryz.prog W = .ok (.enter 67 (#[v] ++ #[.pointer (some ⟨mb, 0, none⟩), .pointer (some ⟨lb, 0, none⟩), .pointer (some ⟨vb, 0, none⟩)])) W := fun _ _ => rfl
      have hen2 : ∀ v W, (callFunc 42 (#[v] ++ #[.pointer (some ⟨ub, 0, none⟩)])).run Tryz.prog W = .ok (.enter 42 (#[v] ++ #[.pointer (some ⟨ub, 0, none⟩)])) W := fun _ _ => rfl
      rw [visN_new hm]
      obtain ⟨w2, hput, hf2, hg2⟩ := hV.flags.put (by have := hV.vs.len; unfold maxLen; omega) hwf
      have hV2 := hV.put hn hm hg2 hf2
      have HV2 := Lib.hid (And.intro hV2 (And.intro hg2 (fun k => VS2.visTo hu hn hV.vs hm (f := f) k)))
      rw [show memS S (n : Int) = false from decide_eq_false hm] at hlk
      have hl0 : w2.cell? ⟨lb, 0, none⟩ = some (fvL ub) := cell_of_row _ _ 0 _ _ _ hV2.l
      unfold fvL at hl0
      have HLD := Lib.hid (leads_any us ua uc hsz ub n hn w2 (hU.later codeR_lasts hV2.below) hV2.u)
      clear hV hV2 hf2 hg2 hm hwf
      go_enter Tryz.func67, Tryz.ntmps67
      go_wp2_with fail
      refine HLD.out.mono ?_
      rintro e w3 ⟨pa, pc, rfl, hown3, hb3⟩
      have hpl : (callees us n).length ≤ 1048576 := by
        cases hc : us[n]? with
        | none => rw [callees, hc]; simp
        | some c =>
          rw [callees_of hc, List.length_map]
          have h1 := callsBl_len c.blocks c.blocks.length
          rw [List.take_length] at h1
          have h2 := sumOf_le inN_le c.blocks
          have hz := (szS_get (sz := szCodeD) hsz hc).1
          unfold szCodeD szS at hz
          omega
      have HCL := Lib.hid (fun z (hz : z ∈ callees us n) => callees_lt hu hz)
      have HV3 := Lib.hid (And.intro (show CV us ua uc ub w0 mb lb vb M (visTo us f n S 0) w3 from HV2.out.1.later hb3) (And.intro (grown_then_below HV2.out.2.1 hb3) hown3))
      obtain ⟨B, hB⟩ : ∃ B, B = w2.heap.size := ⟨_, rfl⟩
      rw [← hB] at HV3
      have HVS := Lib.hid HV2.out.2.2
      clear hown3 hb3 hB HV2 hm0 hlk hl0 hput HLD
      go_wp2_with fail
      go_loopg [17] (callees us n).length (fun F i wr => ∃ k : Nat, k + F = (callees us n).length ∧ i = .int .i64 k ∧ Hid (CV us ua uc ub w0 mb lb vb M (visTo us f n S k) wr ∧
        w.grownBy wr (some M) ∧ wr.ownsRow B 3 1 (.slice pa (callees us n).length pc) (callees us n).length ((callees us n).map (Value.int .i64))))
      case atStart => exact ⟨0, by omega, rfl, HV3⟩
      case round =>
        obtain ⟨k, hk, rfl, HK⟩ := hrel
        clear HV3
        by_cases hlt : k < (callees us n).length
        · obtain ⟨b2, o2, x, rfl, hx, hcx⟩ := (ints_of_own HK.out.2.2).toIntsRd.place hlt
          obtain ⟨m, rfl, hm⟩ := HCL.out x (List.mem_of_getElem? hx)
          have hvx : wr.cell? ⟨vb, 0, none⟩ = some (fvV mb lb vb) := cell_of_row _ _ 0 _ _ _ HK.out.1.v
          unfold fvV at hvx
          have hih := ih m (visTo us f n S k) wr HK.out.1 (by omega) (by omega)
          have hsc := visTo_succ (f := f) (S := S) hx
          rw [Int.toNat_natCast] at hsc
          rw [← hsc] at hih
          have HI := Lib.hid hih
          have hki : (k : Int) < ((callees us n).length : Int) := by omega
          clear hih hx hsc
          go_wp2_with fail
          refine HI.out.mono ?_
          rintro e w5 ⟨rfl, hv5, hg5⟩
          obtain ⟨es, c, hM⟩ := flagsAt_blk HK.out.1.flags
          have HN := Lib.hid (And.intro hv5 (And.intro (HK.out.2.1.andThen hg5 (fun j hj => .inr hj)) (own_aside hM hg5 HK.out.2.2)))
          clear hv5 hg5 hM HI hcx hvx
          go_wp2
          go_roundg (gk - 1)
          case measure => omega
          case rel => exact ⟨k + 1, by omega, by go_num, HN⟩
        · obtain rfl : k = (callees us n).length := by omega
          go_wp2
          go_end0
          exact ⟨rfl, HK.out.1, HK.out.2.1⟩

theorem run_store_fresh (w : World) (b : Nat) (old v : Value) (t : TypeId) (hb : b = w.heap.size) (hv : v.oneCell' = true) : (store ⟨b, 0, none⟩ v).run Tryz.prog (w.alloc (.cells #[old] t)) = .ok () (w.alloc (.cells #[v] t)) := by
  subst hb
  rw [run_store _ _ _ _ _ hv, rowAt_new w old t, frozen_of_row _ _ 0 _ _ (heap_alloc_new w _)]
  simp only [Bool.false_eq_true, if_false]
  rw [World.setCell_alloc_new]
  rfl
theorem filtTo_asc (p : Nat → Bool) (k : Nat) : Asc (filtTo p k) := by
  unfold filtTo Asc
  rw [List.pairwise_map]
  exact (List.pairwise_lt_range.filter p).imp (fun h => by omega)
theorem cnP_asc (us : List CodeD) : Asc (cnP us) := by
  unfold cnP
  split
  · exact filtTo_asc _ _
  · exact List.Pairwise.nil

set_option maxRecDepth 100000 in
set_option maxHeartbeats 4000000 in
theorem closure_any (us : List CodeD) (hu : unitB us = true) (hN : 0 < us.length) (hsz : szS szCodeD us ≤ 1048576) (ua : Option Addr) (uc ub : Nat) (sa : Option Addr) (sc : Nat) (w : World) (hU : SliceRd 3 CodeR w ua us.length us) (hub : w.heap[ub]? = some (.cells #[.slice ua us.length uc] 30 (0, 0))) (hs : IntsRd w sa 1 [(us.length : Int) - 1]) :
    Calls Tryz.prog 41 #[.slice sa 1 sc, fvL ub] w fun e w' => RetInts w (cnP us) (cnP us).length e w' := by
  have hmm := @run_makeMap Tryz.prog
  have hmf : ∀ (fn : Fn) (first cap : Array Value) (w : World), (Instr.makeFunc fn first cap).run Tryz.prog w = .ok (.func fn first cap) w := fun _ _ _ _ => rfl
  have hul : us.length ≤ 1048576 := Nat.le_trans (szS_len szCodeD us) hsz
  have hst1 := run_store_fresh ((w.alloc (.cells #[fvL ub] 74)).alloc (.map #[] 0)) (w.heap.size + 1 + 1) (.map none) (.map (some (w.heap.size + 1))) 91 (by simp) rfl
  have hst2 := run_store_fresh (((w.alloc (.cells #[fvL ub] 74)).alloc (.map #[] 0)).alloc (.cells #[.map (some (w.heap.size + 1))] 91)) (w.heap.size + 1 + 1 + 1) .nilFunc (fvV (w.heap.size + 1 + 1) w.heap.size (w.heap.size + 1 + 1 + 1)) 92 (by simp) rfl
  have hbA : Below w.heap.size w ((w.alloc (.cells #[fvL ub] 74)).alloc (.map #[] 0)) := ((Below.refl _ _).alloc (Nat.le_refl _) _).alloc (by simp) _
  have hsA : ((w.alloc (.cells #[fvL ub] 74)).alloc (.map #[] 0)).heap.size = w.heap.size + 1 + 1 := by simp
  have hlA := heap_alloc2_old w (.cells #[fvL ub] 74) (.map #[] 0)
  have hFA := FlagsAt.made (w.alloc (.cells #[fvL ub] 74))
  rw [World.size_alloc] at hFA
  generalize hWA : (w.alloc (.cells #[fvL ub] 74)).alloc (.map #[] 0) = WA at hst1 hst2 hbA hsA hlA hFA
  have hb2 : Below WA.heap.size WA ((WA.alloc (.cells #[.map (some (w.heap.size + 1))] 91)).alloc (.cells #[fvV (w.heap.size + 1 + 1) w.heap.size (w.heap.size + 1 + 1 + 1)] 92)) := ((Below.refl _ _).alloc (Nat.le_refl _) _).alloc (by simp) _
  have hV : CV us ua uc ub w (w.heap.size + 1 + 1) w.heap.size (w.heap.size + 1 + 1 + 1) (w.heap.size + 1) [] ((WA.alloc (.cells #[.map (some (w.heap.size + 1))] 91)).alloc (.cells #[fvV (w.heap.size + 1 + 1) w.heap.size (w.heap.size + 1 + 1 + 1)] 92)) := by
    have h1 := heap_alloc2_old WA (.cells #[.map (some (w.heap.size + 1))] 91) (.cells #[fvV (w.heap.size + 1 + 1) w.heap.size (w.heap.size + 1 + 1 + 1)] 92)
    have h2 := heap_alloc2_new WA (.cells #[.map (some (w.heap.size + 1))] 91) (.cells #[fvV (w.heap.size + 1 + 1) w.heap.size (w.heap.size + 1 + 1 + 1)] 92)
    rw [hsA] at h1 h2
    refine ⟨hbA.trans (hb2.mono hbA.size), h1, (hb2.block _ (by omega)).trans hlA, h2, (hb2.block _ (Nat.lt_of_lt_of_le (Array.getElem?_eq_some_iff.1 hub).1 hbA.size)).trans ((hbA.block _ (Array.getElem?_eq_some_iff.1 hub).1).trans hub), ?_, by omega, ⟨List.nodup_nil, by simp⟩⟩
    exact (hFA.later hb2).same (fun j => by unfold memS; simp)
  have HV := Lib.hid (And.intro hV (hs.later hV.below))
  have HU := Lib.hid hU
  clear hV hb2 hbA hlA hFA hs hub hU
  unfold fvV at hst2
  have hen : ∀ v W, (callFunc 67 (#[v] ++ #[.pointer (some ⟨w.heap.size + 1 + 1, 0, none⟩), .pointer (some ⟨w.heap.size, 0, none⟩), .pointer (some ⟨w.heap.size + 1 + 1 + 1, 0, none⟩)])).run Tryz.prog W = .ok (.enter 67 (#[v] ++ #[.pointer (some ⟨w.heap.size + 1 + 1, 0, none⟩), .pointer (some ⟨w.heap.size, 0, none⟩), .pointer (some ⟨w.heap.size + 1 + 1 + 1, 0, none⟩)])) W := fun _ _ => rfl
  rw [← hWA] at hst1 hst2 HV
  clear hWA hsA
  unfold fvL
  unfold fvL at hst1 hst2
  have HV := Lib.hid (show CV us ua uc ub w (w.heap.size + 1 + 1) w.heap.size (w.heap.size + 1 + 1 + 1) (w.heap.size + 1) [] ((((w.alloc (.cells #[.func (.func 42) #[] #[.pointer (some ⟨ub, 0, none⟩)]] 74)).alloc (.map #[] 0)).alloc (.cells #[.map (some (w.heap.size + 1))] 91)).alloc (.cells #[.func (.func 67) #[] #[.pointer (some ⟨w.heap.size + 1 + 1, 0, none⟩), .pointer (some ⟨w.heap.size, 0, none⟩), .pointer (some ⟨w.heap.size + 1 + 1 + 1, 0, none⟩)]] 92)) ∧ IntsRd ((((w.alloc (.cells #[.func (.func 42) #[] #[.pointer (some ⟨ub, 0, none⟩)]] 74)).alloc (.map #[] 0)).alloc (.cells #[.map (some (w.heap.size + 1))] 91)).alloc (.cells #[.func (.func 67) #[] #[.pointer (some ⟨w.heap.size + 1 + 1, 0, none⟩), .pointer (some ⟨w.heap.size, 0, none⟩), .pointer (some ⟨w.heap.size + 1 + 1 + 1, 0, none⟩)]] 92)) sa 1 [(us.length : Int) - 1] from HV.out)
  go_enter Tryz.func41, Tryz.ntmps41
  go_wp2_with fail
  generalize (((w.alloc (.cells #[.func (.func 42) #[] #[.pointer (some ⟨ub, 0, none⟩)]] 74)).alloc (.map #[] 0)).alloc (.cells #[.map (some (w.heap.size + 1))] 91)).alloc (.cells #[.func (.func 67) #[] #[.pointer (some ⟨w.heap.size + 1 + 1, 0, none⟩), .pointer (some ⟨w.heap.size, 0, none⟩), .pointer (some ⟨w.heap.size + 1 + 1 + 1, 0, none⟩)]] 92) = W4 at HV ⊢
  clear hst1 hst2 hmm hmf
  obtain ⟨n, hn⟩ : ∃ n : Nat, us.length = n + 1 := ⟨us.length - 1, by omega⟩
  have hni : (us.length : Int) - 1 = (n : Int) := by omega
  have HNN := Lib.hid hn
  have HS := Lib.hid (show IntsRd W4 sa 1 [(n : Int)] by rw [← hni]; exact HV.out.2)
  have HCM := Lib.hid (cn_mem hu hN)
  have hnl : n < us.length := by omega
  clear hni hn
  go_loopg [13] 1 (fun F i wr => ∃ k : Nat, k + F = 1 ∧ i = .int .i64 k ∧ Hid (CV us ua uc ub w (w.heap.size + 1 + 1) w.heap.size (w.heap.size + 1 + 1 + 1) (w.heap.size + 1) (if k = 0 then [] else visN us us.length n []) wr ∧ (k = 0 → wr = W4)))
  case atStart => exact ⟨0, by omega, rfl, Lib.hid ⟨HV.out.1, fun _ => rfl⟩⟩
  case round =>
    obtain ⟨k, hk, rfl, HK⟩ := hrel
    by_cases hlt : k < 1
    · obtain rfl : k = 0 := by omega
      obtain rfl := HK.out.2 rfl
      obtain ⟨b2, o2, x, rfl, hx, hcx⟩ := HS.out.place (i := 0) (by omega)
      simp only [List.getElem?_cons_zero, Option.some.injEq] at hx
      subst hx
      rw [Nat.add_zero] at hcx
      have HC0 := Lib.hid (show CV us ua uc ub w (w.heap.size + 1 + 1) w.heap.size (w.heap.size + 1 + 1 + 1) (w.heap.size + 1) [] wr from HV.out.1)
      have hvx : wr.cell? ⟨w.heap.size + 1 + 1 + 1, 0, none⟩ = some (.func (.func 67) #[] #[.pointer (some ⟨w.heap.size + 1 + 1, 0, none⟩), .pointer (some ⟨w.heap.size, 0, none⟩), .pointer (some ⟨w.heap.size + 1 + 1 + 1, 0, none⟩)]) := cell_of_row _ _ 0 _ _ _ HC0.out.v
      have HI := Lib.hid (closure1_any us hu hsz ua uc ub w HU.out (w.heap.size + 1 + 1) w.heap.size (w.heap.size + 1 + 1 + 1) (w.heap.size + 1) us.length n [] wr HC0.out hnl hnl)
      go_wp2_with fail
      refine HI.out.mono ?_
      rintro e w5 ⟨rfl, hv5, _⟩
      have HN := Lib.hid hv5
      clear hv5 hcx hvx
      go_wp2
      go_roundg 0
      case measure => omega
      case rel => exact ⟨1, by omega, by go_num, Lib.hid ⟨HN.out, fun h => by omega⟩⟩
    · obtain rfl : k = 1 := by omega
      have HR := Lib.hid (show CV us ua uc ub w (w.heap.size + 1 + 1) w.heap.size (w.heap.size + 1 + 1 + 1) (w.heap.size + 1) (visN us us.length n []) wr from HK.out.1)
      have hm0 : wr.cell? ⟨w.heap.size + 1 + 1, 0, none⟩ = some (.map (some (w.heap.size + 1))) := cell_of_row _ _ 0 _ _ _ HR.out.m
      have hlen := HR.out.vs.len
      have HSK := Lib.hid (sortedKeys_any _ _ _ (cnP us) wr HR.out.flags (by omega) (cnP_asc us) (fun z => by
        rw [HCM.out z, show us.length - 1 = n by have := HNN.out; omega]
        unfold memS
        rw [decide_eq_true_iff]) (fun z hz => by
        have h2 := HR.out.vs.rng z (of_decide_eq_true hz)
        exact WalkArith.wf_i64 (by omega)))
      clear hk hlen
      go_wp2_with fail
      refine HSK.out.mono ?_
      rintro e w8 ⟨a8, c8, rfl, hown8, hb8⟩
      have HN := Lib.hid (And.intro (own_lower hown8 (base' := w.heap.size) (fun k hk => Nat.le_trans HR.out.below.size (hown8.lt k hk).1)) (HR.out.below.trans (hb8.mono HR.out.below.size)))
      clear hown8 hb8
      go_wp2
      go_ret
      exact ⟨_, _, rfl, HN.out.1, HN.out.2⟩

set_option maxRecDepth 100000 in
set_option maxHeartbeats 1000000 in
theorem codesNeeded_any (us : List CodeD) (hu : unitB us = true) (hN : 0 < us.length) (hsz : szS szCodeD us ≤ 1048576) (ua : Option Addr) (uc : Nat) (w : World) (hU : SliceRd 3 CodeR w ua us.length us) :
    Calls Tryz.prog 23 #[.agg #[.slice ua us.length uc]] w fun e w' => RetInts w (cnP us) (cnP us).length e w' := by
  have hmf : ∀ (fn : Fn) (first cap : Array Value) (w : World), (Instr.makeFunc fn first cap).run Tryz.prog w = .ok (.func fn first cap) w := fun _ _ _ _ => rfl
  have hul : us.length ≤ 1048576 := Nat.le_trans (szS_len szCodeD us) hsz
  have hb0 : Below w.heap.size w (w.alloc (.cells #[.slice ua us.length uc] 30)) := (Below.refl _ _).alloc (Nat.le_refl _) _
  have hrow := heap_alloc_new w (.cells #[.slice ua us.length uc] 30)
  have hc0 : (w.alloc (.cells #[.slice ua us.length uc] 30)).cell? ⟨w.heap.size, 0, none⟩ = some (.slice ua us.length uc) := cell_of_row _ _ 0 _ _ _ hrow
  have hb1 : Below w.heap.size w ((w.alloc (.cells #[.slice ua us.length uc] 30)).alloc (.cells #[.int .i64 ((us.length : Int) - 1)] 3)) := hb0.alloc (by simp) _
  have hrd : IntsRd ((w.alloc (.cells #[.slice ua us.length uc] 30)).alloc (.cells #[.int .i64 ((us.length : Int) - 1)] 3)) (some ⟨w.heap.size + 1, 0, none⟩) 1 [(us.length : Int) - 1] := by
    have h := rowAt_one (w.alloc (.cells #[.slice ua us.length uc] 30)) (.int .i64 ((us.length : Int) - 1)) 3
    rw [World.size_alloc] at h
    exact ⟨rfl, h⟩
  have HC := Lib.hid (And.intro hb1 (closure_any us hu hN hsz ua uc w.heap.size (some ⟨w.heap.size + 1, 0, none⟩) 1 _ (hU.later codeR_lasts hb1) (heap_alloc2_old w _ _) hrd))
  unfold fvL at HC
  clear hb0 hrow hb1 hrd hU
  go_enter Tryz.func23, Tryz.ntmps23
  go_wp2_with fail
  refine HC.out.2.mono ?_
  rintro e w2 ⟨a2, c2, rfl, hown2, hb2⟩
  have HO := Lib.hid (And.intro (own_lower hown2 (base' := w.heap.size) (fun k hk => Nat.le_trans HC.out.1.size (hown2.lt k hk).1)) (HC.out.1.trans (hb2.mono HC.out.1.size)))
  clear hown2 hb2
  go_wp2
  go_ret
  exact ⟨_, _, rfl, HO.out.1, HO.out.2⟩

set_option maxRecDepth 100000 in
set_option maxHeartbeats 1000000 in
theorem implCodesNeeded_any (us : List CodeD) (ua : Option Addr) (uc : Nat) (hsz : szS szCodeD us ≤ 1048576) (w : World) (hU : SliceRd 3 CodeR w ua us.length us) :
    Calls Tryz.prog 8 #[.agg #[.slice ua us.length uc]] w fun e w' => RetInts w (cnP us) (cnP us).length e w' := by
  have hb0 : Below w.heap.size w (w.alloc (.cells #[.slice ua us.length uc] 30)) := (Below.refl _ _).alloc (Nat.le_refl _) _
  have hrow := heap_alloc_new w (.cells #[.slice ua us.length uc] 30)
  have hc0 : (w.alloc (.cells #[.slice ua us.length uc] 30)).cell? ⟨w.heap.size, 0, none⟩ = some (.slice ua us.length uc) := cell_of_row _ _ 0 _ _ _ hrow
  have hn2 : us.length ≤ 1048576 := Nat.le_trans (szS_len szCodeD us) hsz
  have HC := Lib.hid (And.intro (implUnitValid_any us ua uc hsz _ (hU.later codeR_lasts hb0)) (And.intro hb0 (And.intro hU hsz)))
  clear hU hrow hsz
  go_enter Tryz.func8, Tryz.ntmps8
  go_wp2_with fail
  refine HC.out.1.mono ?_
  cases hv : unitB us with
  | false =>
    have HN := Lib.hid (show cnP us = [] by rw [cnP, hv]; rfl)
    clear hv
    rintro e w1 ⟨rfl, hb1⟩
    have hc1 := cell_later hb1 hc0
    have HB := Lib.hid (HC.out.2.1.trans (hb1.mono HC.out.2.1.size))
    clear hb1 hb0
    go_wp2
    go_ret
    rw [HN.out]
    exact ⟨none, 0, rfl, World.ownsRow_nil _ _ _ _, HB.out⟩
  | true =>
    have hNp : 0 < us.length := by
      have h1 := hv
      rw [unitB, Bool.and_eq_true, Bool.and_eq_true, limB, Bool.and_eq_true] at h1
      have := of_decide_eq_true h1.1.1.1
      omega
    have HV := Lib.hid hv
    clear hv
    rintro e w1 ⟨rfl, hb1⟩
    have hc1 := cell_later hb1 hc0
    have HB := Lib.hid (HC.out.2.1.trans (hb1.mono HC.out.2.1.size))
    have HCN := Lib.hid (codesNeeded_any us HV.out hNp HC.out.2.2.2 ua uc w1 (HC.out.2.2.1.later codeR_lasts HB.out))
    clear hb1 hb0 hc0
    go_wp2_with fail
    refine HCN.out.mono ?_
    rintro e w2 ⟨a2, c2, rfl, hown2, hb2⟩
    have HO := Lib.hid (And.intro (own_lower hown2 (base' := w.heap.size) (fun k hk => Nat.le_trans HB.out.size (hown2.lt k hk).1)) (HB.out.trans (hb2.mono HB.out.size)))
    clear hown2 hb2
    go_wp2
    go_ret
    exact ⟨_, _, rfl, HO.out.1, HO.out.2⟩

end Go.Proofs.YtonlidgmfmgcmaaGreat
