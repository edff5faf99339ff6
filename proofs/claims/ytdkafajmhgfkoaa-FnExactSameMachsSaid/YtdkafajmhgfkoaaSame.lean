
/-
  SameMachs, the reference's and the program's.
-/
import Derived.Test.YtdkafajmhgfkoaaMachData
import Derived.Deep.DeepCutAuto
namespace Go.Proofs.Ytdkafajmhgfkoaa
open Go.RowKit

def allK (q : Nat → Bool) : Nat → Bool
  | 0 => true
  | k + 1 => allK q k && q k
theorem allK_stop {q : Nat → Bool} {i : Nat} (h : q i = false) : ∀ {n : Nat}, i < n → allK q n = false
  | 0, hn => by omega
  | n + 1, hn => by
    rw [allK]
    by_cases e : i = n
    · subst e; rw [h, Bool.and_false]
    · rw [allK_stop h (by omega), Bool.false_and]
theorem allK_next {q : Nat → Bool} {k : Nat} (h : allK q k = true) (hq : q k = true) : allK q (k + 1) = true := by rw [allK, h, hq]; rfl
def minsB (x y : MinsD) : Bool := x.op == y.op && (x.fa == y.fa && (x.fb == y.fb && (x.fc == y.fc && x.fn == y.fn)))
def insEq (xs ys : List MinsD) (i : Nat) : Bool := match xs[i]?, ys[i]? with
  | some x, some y => minsB x y
  | _, _ => true
def sameIns (xs ys : List MinsD) : Bool := (xs.length == ys.length) && allK (insEq xs ys) xs.length
def mfnB (f g : MfnD) : Bool := f.params == g.params && (f.slots == g.slots && sameIns f.ins g.ins)
def fnEq (fs gs : List MfnD) (i : Nat) : Bool := match fs[i]?, gs[i]? with
  | some f, some g => mfnB f g
  | _, _ => true
def sameP (fs gs : List MfnD) : Bool := (fs.length == gs.length) && allK (fnEq fs gs) fs.length
theorem insEq_of {xs ys : List MinsD} {i : Nat} {x y : MinsD} (hx : xs[i]? = some x) (hy : ys[i]? = some y) : insEq xs ys i = minsB x y := by rw [insEq, hx, hy]
theorem fnEq_of {xs ys : List MfnD} {i : Nat} {x y : MfnD} (hx : xs[i]? = some x) (hy : ys[i]? = some y) : fnEq xs ys i = mfnB x y := by rw [fnEq, hx, hy]
/-- The first field in which two instructions differ. -/
theorem mins_differ {x y : MinsD} (h : minsB x y = false) : (x.op == y.op) = false ∨ ((x.op == y.op) = true ∧ (x.fa == y.fa) = false) ∨ ((x.op == y.op) = true ∧ (x.fa == y.fa) = true ∧ (x.fb == y.fb) = false) ∨
    ((x.op == y.op) = true ∧ (x.fa == y.fa) = true ∧ (x.fb == y.fb) = true ∧ (x.fc == y.fc) = false) ∨ ((x.op == y.op) = true ∧ (x.fa == y.fa) = true ∧ (x.fb == y.fb) = true ∧ (x.fc == y.fc) = true ∧ (x.fn == y.fn) = false) := by
  unfold minsB at h
  cases h1 : (x.op == y.op) with
  | false => exact .inl rfl
  | true =>
    cases h2 : (x.fa == y.fa) with
    | false => exact .inr (.inl ⟨rfl, rfl⟩)
    | true =>
      cases h3 : (x.fb == y.fb) with
      | false => exact .inr (.inr (.inl ⟨rfl, rfl, rfl⟩))
      | true =>
        cases h4 : (x.fc == y.fc) with
        | false => exact .inr (.inr (.inr (.inl ⟨rfl, rfl, rfl, rfl⟩)))
        | true =>
          rw [h1, h2, h3, h4] at h
          exact .inr (.inr (.inr (.inr ⟨rfl, rfl, rfl, rfl, h⟩)))
theorem mins_same {x y : MinsD} (h : minsB x y = true) : x = y := by
  unfold minsB at h
  simp only [Bool.and_eq_true, beq_iff_eq] at h
  obtain ⟨h1, h2, h3, h4, h5⟩ := h
  cases x
  cases y
  simp_all

set_option maxRecDepth 100000 in
set_option maxHeartbeats 2000000 in
theorem equalMins_any (a a' : Option Addr) (cap cap' : Nat) (xs ys : List MinsD) (w : World) (hin : SliceRd 5 MinsR w a xs.length xs) (hin' : SliceRd 5 MinsR w a' ys.length ys) (hs : xs.length ≤ 1048576) (hs' : ys.length ≤ 1048576) :
    Calls Try.prog 16 #[.slice a xs.length cap, .slice a' ys.length cap'] w fun e w' => e = .returned (.bool (sameIns xs ys)) ∧ Below w.heap.size w w' := by
  have hle := hs
  by_cases hl : xs.length = ys.length
  · have hb : ((xs.length : Int) != (ys.length : Int)) = false := by simp [hl]
    have HV := Lib.hid (show sameIns xs ys = allK (insEq xs ys) xs.length by rw [sameIns, hl]; simp)
    have HL := Lib.hid hl
    clear hl
    go_enter Try.func16, Try.ntmps16
    go_wp2_with fail
    go_loopg [13] xs.length (fun F i wr => ∃ k : Nat, k + F = xs.length ∧ i = .int .i64 k ∧ Hid (allK (insEq xs ys) k = true ∧ Below w.heap.size w wr))
    case atStart => exact ⟨0, by omega, rfl, Lib.hid ⟨rfl, Below.refl _ _⟩⟩
    case round =>
      obtain ⟨k, hk, rfl, HK⟩ := hrel
      by_cases hlt : k < xs.length
      · have hlt' : k < ys.length := by have := HL.out; omega
        obtain ⟨b1, o1, op, fa, fb, fc, fn, rfl, hx, c0, c1, c2, c3, c4, _⟩ := mins_place (hin.later minsR_lasts HK.out.2) hlt
        obtain ⟨b2, o2, op', fa', fb', fc', fn', rfl, hy, e0, e1, e2, e3, e4, _⟩ := mins_place (hin'.later minsR_lasts HK.out.2) hlt'
        have hki : (k : Int) < (xs.length : Int) := by omega
        have hki' : (k : Int) < (ys.length : Int) := by omega
        have HE := Lib.hid (insEq_of hx hy)
        clear hx hy
        cases hv : minsB ⟨op, fa, fb, fc, fn⟩ ⟨op', fa', fb', fc', fn'⟩ with
        | true =>
          have hsame := mins_same hv
          simp only [MinsD.mk.injEq] at hsame
          obtain ⟨rfl, rfl, rfl, rfl, rfl⟩ := hsame
          have HN := Lib.hid (allK_next HK.out.1 (HE.out.trans hv))
          clear hv
          go_wp2_with fail
          go_quiet (fail)
          go_wp2
          go_roundg (gk - 1)
          case measure => omega
          case rel => exact ⟨k + 1, by omega, by go_num, Lib.hid ⟨HN.out, below_drewN HK.out.2 _⟩⟩
        | false =>
          have HN := Lib.hid (show sameIns xs ys = false by rw [HV.out, allK_stop (HE.out.trans hv) hlt])
          have hd := mins_differ hv
          simp only at hd
          clear hv
          rcases hd with h1 | ⟨h1, h2⟩ | ⟨h1, h2, h3⟩ | ⟨h1, h2, h3, h4⟩ | ⟨h1, h2, h3, h4, h5⟩
          all_goals
            go_wp2_with fail
            go_quiet (fail)
            go_wp2
            go_ret
            exact ⟨ret_bool HN.out.symm, below_drewN HK.out.2 _⟩
      · obtain rfl : k = xs.length := by omega
        have HN := Lib.hid (HV.out.trans HK.out.1)
        go_wp2
        go_ret
        exact ⟨ret_bool HN.out.symm, HK.out.2⟩
  · have hb : ((xs.length : Int) != (ys.length : Int)) = true := by simp; omega
    have HN := Lib.hid (show sameIns xs ys = false by rw [sameIns, show (xs.length == ys.length) = false by simpa using hl]; rfl)
    clear hl
    go_enter Try.func16, Try.ntmps16
    go_wp2
    go_ret
    exact ⟨ret_bool HN.out.symm, Below.refl _ _⟩

theorem sz_ins (f : MfnD) : f.ins.length ≤ szMfnD f := szS_len szMinsD f.ins

set_option maxRecDepth 100000 in
set_option maxHeartbeats 1000000 in
theorem sameMfn_any (f g : MfnD) (ia ja : Option Addr) (ic jc : Nat) (w : World) (hf : SliceRd 5 MinsR w ia f.ins.length f.ins) (hg : SliceRd 5 MinsR w ja g.ins.length g.ins) (hs : szMfnD f ≤ 1048576) (hs' : szMfnD g ≤ 1048576) :
    Calls Try.prog 12 #[.agg #[.int .i64 f.params, .int .i64 f.slots, .slice ia f.ins.length ic], .agg #[.int .i64 g.params, .int .i64 g.slots, .slice ja g.ins.length jc]] w fun e w' => e = .returned (.bool (mfnB f g)) ∧ Below w.heap.size w w' := by
  have hfl := Nat.le_trans (sz_ins f) hs
  have hgl := Nat.le_trans (sz_ins g) hs'
  obtain ⟨params, slots, ins⟩ := f
  obtain ⟨params', slots', ins'⟩ := g
  simp only at hf hg hfl hgl ⊢
  have hb : Below w.heap.size w ((w.alloc (.cells #[.int .i64 params, .int .i64 slots, .slice ia ins.length ic] 35)).alloc (.cells #[.int .i64 params', .int .i64 slots', .slice ja ins'.length jc] 35)) := ((Below.refl _ _).alloc (Nat.le_refl _) _).alloc (by simp) _
  have h1 := heap_alloc2_old w (.cells #[.int .i64 params, .int .i64 slots, .slice ia ins.length ic] 35) (.cells #[.int .i64 params', .int .i64 slots', .slice ja ins'.length jc] 35)
  have h2 := heap_alloc2_new w (.cells #[.int .i64 params, .int .i64 slots, .slice ia ins.length ic] 35) (.cells #[.int .i64 params', .int .i64 slots', .slice ja ins'.length jc] 35)
  have k0 := cell_of_row _ _ 0 _ _ _ h1
  have k1 := cell_of_row _ _ 1 _ _ _ h1
  have k2 := cell_of_row _ _ 2 _ _ _ h1
  have m0 := cell_of_row _ _ 0 _ _ _ h2
  have m1 := cell_of_row _ _ 1 _ _ _ h2
  have m2 := cell_of_row _ _ 2 _ _ _ h2
  simp only [List.getElem?_toArray, List.getElem?_cons_zero, List.getElem?_cons_succ] at k0 k1 k2 m0 m1 m2
  have HB := Lib.hid hb
  have HE := Lib.hid (equalMins_any ia ja ic jc ins ins' _ (hf.later minsR_lasts hb) (hg.later minsR_lasts hb) hfl hgl)
  have HV := Lib.hid (show mfnB ⟨params, slots, ins⟩ ⟨params', slots', ins'⟩ = (params == params' && (slots == slots' && sameIns ins ins')) from rfl)
  clear hb h1 h2 hf hg
  cases hp : (params == params') with
  | false =>
    have HN := Lib.hid (show mfnB ⟨params, slots, ins⟩ ⟨params', slots', ins'⟩ = false by rw [HV.out, hp]; rfl)
    go_enter Try.func12, Try.ntmps12
    go_wp2
    go_ret
    exact ⟨ret_bool HN.out.symm, HB.out⟩
  | true =>
    cases hq : (slots == slots') with
    | false =>
      have HN := Lib.hid (show mfnB ⟨params, slots, ins⟩ ⟨params', slots', ins'⟩ = false by rw [HV.out, hp, hq]; rfl)
      go_enter Try.func12, Try.ntmps12
      go_wp2
      go_ret
      exact ⟨ret_bool HN.out.symm, HB.out⟩
    | true =>
      have HN := Lib.hid (show mfnB ⟨params, slots, ins⟩ ⟨params', slots', ins'⟩ = sameIns ins ins' by rw [HV.out, hp, hq]; rfl)
      go_enter Try.func12, Try.ntmps12
      go_wp2_with fail
      refine HE.out.mono ?_
      rintro e w2 ⟨rfl, hb2⟩
      have HBE := Lib.hid (HB.out.trans (hb2.mono HB.out.size))
      clear hb2
      go_wp2
      go_ret
      exact ⟨ret_bool HN.out.symm, HBE.out⟩

set_option maxRecDepth 100000 in
set_option maxHeartbeats 2000000 in
theorem equalMfn_any (a a' : Option Addr) (cap cap' : Nat) (fs gs : List MfnD) (w : World) (hin : SliceRd 3 MfnR w a fs.length fs) (hin' : SliceRd 3 MfnR w a' gs.length gs) (hs : szS szMfnD fs ≤ 1048576) (hs' : szS szMfnD gs ≤ 1048576) :
    Calls Try.prog 11 #[.slice a fs.length cap, .slice a' gs.length cap', .func (.func 12) #[] #[]] w fun e w' => e = .returned (.bool (sameP fs gs)) ∧ Below w.heap.size w w' := by
  have hfl := Nat.le_trans (szS_len szMfnD fs) hs
  have hgl := Nat.le_trans (szS_len szMfnD gs) hs'
  by_cases hl : fs.length = gs.length
  · have hb : ((fs.length : Int) != (gs.length : Int)) = false := by simp [hl]
    have HV := Lib.hid (show sameP fs gs = allK (fnEq fs gs) fs.length by rw [sameP, hl]; simp)
    have HL := Lib.hid hl
    have HS := Lib.hid (And.intro hs hs')
    clear hl hs hs'
    go_enter Try.func11, Try.ntmps11
    go_wp2_with fail
    go_loopg [17] fs.length (fun F i wr => ∃ k : Nat, k + F = fs.length ∧ i = .int .i64 k ∧ Hid (allK (fnEq fs gs) k = true ∧ Below w.heap.size w wr))
    case atStart => exact ⟨0, by omega, rfl, Lib.hid ⟨rfl, Below.refl _ _⟩⟩
    case round =>
      obtain ⟨k, hk, rfl, HK⟩ := hrel
      by_cases hlt : k < fs.length
      · have hlt' : k < gs.length := by have := HL.out; omega
        obtain ⟨b1, o1, params, slots, ins, ia, ic, rfl, hx, c0, c1, c2, hR⟩ := mfn_place (hin.later mfnR_lasts HK.out.2) hlt
        obtain ⟨b2, o2, params', slots', ins', ja, jc, rfl, hy, e0, e1, e2, hR'⟩ := mfn_place (hin'.later mfnR_lasts HK.out.2) hlt'
        have hki : (k : Int) < (fs.length : Int) := by omega
        have hki' : (k : Int) < (gs.length : Int) := by omega
        have HE := Lib.hid (fnEq_of hx hy)
        have hz := Nat.le_trans (szS_mem (sz := szMfnD) (List.mem_of_getElem? hx)) HS.out.1
        have hz' := Nat.le_trans (szS_mem (sz := szMfnD) (List.mem_of_getElem? hy)) HS.out.2
        have hb1 : Below wr.heap.size wr (wr.alloc (.cells #[.int .i64 params, .int .i64 slots, .slice ia ins.length ic] 35)) := (Below.refl _ _).alloc (Nat.le_refl _) _
        have hb2 : Below wr.heap.size wr ((wr.alloc (.cells #[.int .i64 params, .int .i64 slots, .slice ia ins.length ic] 35)).alloc (.cells #[.int .i64 params', .int .i64 slots', .slice ja ins'.length jc] 35)) := hb1.alloc (by simp) _
        have h1 := heap_alloc2_old wr (.cells #[.int .i64 params, .int .i64 slots, .slice ia ins.length ic] 35) (.cells #[.int .i64 params', .int .i64 slots', .slice ja ins'.length jc] 35)
        have h2 := heap_alloc2_new wr (.cells #[.int .i64 params, .int .i64 slots, .slice ia ins.length ic] 35) (.cells #[.int .i64 params', .int .i64 slots', .slice ja ins'.length jc] 35)
        have k0 := cell_of_row _ _ 0 _ _ _ h1
        have k1 := cell_of_row _ _ 1 _ _ _ h1
        have k2 := cell_of_row _ _ 2 _ _ _ h1
        have m0 := cell_of_row _ _ 0 _ _ _ h2
        have m1 := cell_of_row _ _ 1 _ _ _ h2
        have m2 := cell_of_row _ _ 2 _ _ _ h2
        simp only [List.getElem?_toArray, List.getElem?_cons_zero, List.getElem?_cons_succ] at k0 k1 k2 m0 m1 m2
        have d0 := cell_later hb1 e0
        have d1 := cell_later hb1 e1
        have d2 := cell_later hb1 e2
        obtain ⟨_, _, hcs, _, hrd⟩ := hR
        obtain ⟨_, _, hcs', _, hrd'⟩ := hR'
        simp only [List.cons.injEq, Value.slice.injEq, and_true, true_and] at hcs hcs'
        obtain ⟨rfl, rfl⟩ := hcs
        obtain ⟨rfl, rfl⟩ := hcs'
        have HSM := Lib.hid (And.intro (HK.out.2.trans (hb2.mono HK.out.2.size)) (sameMfn_any ⟨params, slots, ins⟩ ⟨params', slots', ins'⟩ ia ja ic jc _ (hrd.later minsR_lasts hb2) (hrd'.later minsR_lasts hb2) hz hz'))
        have hen : ∀ v W, (callFunc 12 (v ++ #[])).run Try.prog W = .ok (.enter 12 (v ++ #[])) W := fun _ _ => rfl
        clear hx hy hrd hrd' hb1 hb2 h1 h2 hz hz'
        go_wp2_with fail
        refine HSM.out.2.mono ?_
        cases hv : mfnB ⟨params, slots, ins⟩ ⟨params', slots', ins'⟩ with
        | true =>
          rintro e w2 ⟨rfl, hb2⟩
          have HN := Lib.hid (And.intro (allK_next HK.out.1 (HE.out.trans hv)) (HSM.out.1.trans (hb2.mono HSM.out.1.size)))
          clear hv hb2
          go_wp2
          go_roundg (gk - 1)
          case measure => omega
          case rel => exact ⟨k + 1, by omega, by go_num, HN⟩
        | false =>
          rintro e w2 ⟨rfl, hb2⟩
          have HN := Lib.hid (show sameP fs gs = false by rw [HV.out, allK_stop (HE.out.trans hv) hlt])
          have HBE := Lib.hid (HSM.out.1.trans (hb2.mono HSM.out.1.size))
          clear hv hb2
          go_wp2
          go_ret
          exact ⟨ret_bool HN.out.symm, HBE.out⟩
      · obtain rfl : k = fs.length := by omega
        have HN := Lib.hid (HV.out.trans HK.out.1)
        go_wp2
        go_ret
        exact ⟨ret_bool HN.out.symm, HK.out.2⟩
  · have hb : ((fs.length : Int) != (gs.length : Int)) = true := by simp; omega
    have HN := Lib.hid (show sameP fs gs = false by rw [sameP, show (fs.length == gs.length) = false by simpa using hl]; rfl)
    clear hl
    go_enter Try.func11, Try.ntmps11
    go_wp2
    go_ret
    exact ⟨ret_bool HN.out.symm, Below.refl _ _⟩

set_option maxRecDepth 100000 in
theorem implSameMachs_any (fs gs : List MfnD) (a a' : Option Addr) (cap cap' : Nat) (w : World) (hin : SliceRd 3 MfnR w a fs.length fs) (hin' : SliceRd 3 MfnR w a' gs.length gs) (hs : szS szMfnD fs ≤ 1048576) (hs' : szS szMfnD gs ≤ 1048576) :
    Calls Try.prog 7 #[.agg #[.slice a fs.length cap], .agg #[.slice a' gs.length cap']] w fun e w' => e = .returned (.bool (sameP fs gs)) ∧ Below w.heap.size w w' := by
  have hb : Below w.heap.size w ((w.alloc (.cells #[.slice a fs.length cap] 29)).alloc (.cells #[.slice a' gs.length cap'] 29)) := ((Below.refl _ _).alloc (Nat.le_refl _) _).alloc (by simp) _
  have k0 : ((w.alloc (.cells #[.slice a fs.length cap] 29)).alloc (.cells #[.slice a' gs.length cap'] 29)).cell? ⟨w.heap.size, 0, none⟩ = some (.slice a fs.length cap) := cell_of_row _ _ 0 _ _ _ (heap_alloc2_old w _ _)
  have m0 : ((w.alloc (.cells #[.slice a fs.length cap] 29)).alloc (.cells #[.slice a' gs.length cap'] 29)).cell? ⟨w.heap.size + 1, 0, none⟩ = some (.slice a' gs.length cap') := cell_of_row _ _ 0 _ _ _ (heap_alloc2_new w _ _)
  have HE := Lib.hid (And.intro hb (equalMfn_any a a' cap cap' fs gs _ (hin.later mfnR_lasts hb) (hin'.later mfnR_lasts hb) hs hs'))
  clear hb hin hin'
  go_enter Try.func7, Try.ntmps7
  go_wp2_with fail
  refine HE.out.2.mono ?_
  rintro e w2 ⟨rfl, hb2⟩
  have HBE := Lib.hid (HE.out.1.trans (hb2.mono HE.out.1.size))
  clear hb2
  go_wp2
  go_ret
  exact ⟨rfl, HBE.out⟩

set_option maxRecDepth 100000 in
set_option maxHeartbeats 4000000 in
theorem specSameMachs_any (fs gs : List MfnD) (a a' : Option Addr) (cap cap' : Nat) (w : World) (hin : SliceRd 3 MfnR w a fs.length fs) (hin' : SliceRd 3 MfnR w a' gs.length gs) (hs : szS szMfnD fs ≤ 1048576) (hs' : szS szMfnD gs ≤ 1048576) :
    Calls Try.prog 5 #[.agg #[.slice a fs.length cap], .agg #[.slice a' gs.length cap']] w fun e w' => e = .returned (.bool (sameP fs gs)) ∧ Below w.heap.size w w' := by
  have hfl := Nat.le_trans (szS_len szMfnD fs) hs
  have hgl := Nat.le_trans (szS_len szMfnD gs) hs'
  have hb : Below w.heap.size w ((w.alloc (.cells #[.slice a fs.length cap] 29)).alloc (.cells #[.slice a' gs.length cap'] 29)) := ((Below.refl _ _).alloc (Nat.le_refl _) _).alloc (by simp) _
  have k0 : ((w.alloc (.cells #[.slice a fs.length cap] 29)).alloc (.cells #[.slice a' gs.length cap'] 29)).cell? ⟨w.heap.size, 0, none⟩ = some (.slice a fs.length cap) := cell_of_row _ _ 0 _ _ _ (heap_alloc2_old w _ _)
  have m0 : ((w.alloc (.cells #[.slice a fs.length cap] 29)).alloc (.cells #[.slice a' gs.length cap'] 29)).cell? ⟨w.heap.size + 1, 0, none⟩ = some (.slice a' gs.length cap') := cell_of_row _ _ 0 _ _ _ (heap_alloc2_new w _ _)
  have HW := Lib.hid (And.intro hb (And.intro (hin.later mfnR_lasts hb) (And.intro (hin'.later mfnR_lasts hb) (And.intro hs hs'))))
  clear hb hin hin' hs hs'
  go_enter Try.func5, Try.ntmps5
  go_upto_region 1 with fail
  generalize (w.alloc (.cells #[.slice a fs.length cap] 29)).alloc (.cells #[.slice a' gs.length cap'] 29) = W1 at HW k0 m0 ⊢
  have HKM := Lib.hid (And.intro k0 m0)
  by_cases hl : fs.length = gs.length
  · have hb : ((fs.length : Int) != (gs.length : Int)) = false := by simp [hl]
    have HV := Lib.hid (show sameP fs gs = allK (fnEq fs gs) fs.length by rw [sameP, hl]; simp)
    have HL := Lib.hid hl
    clear hl
    go_wp2_with fail
    clear k0 m0
    go_loopg [5] fs.length (fun F i wr => ∃ k : Nat, k + F = fs.length ∧ i = .int .i64 k ∧ Hid (allK (fnEq fs gs) k = true ∧ Below W1.heap.size W1 wr))
    case atStart => exact ⟨0, by omega, rfl, Lib.hid ⟨rfl, Below.refl _ _⟩⟩
    case round =>
      obtain ⟨k, hk, rfl, HK⟩ := hrel
      have k0 := cell_later HK.out.2 HKM.out.1
      have m0 := cell_later HK.out.2 HKM.out.2
      by_cases hlt : k < fs.length
      · have hlt' : k < gs.length := by have := HL.out; omega
        obtain ⟨b1, o1, params, slots, ins, ia, ic, rfl, hx, c0, c1, c2, hR⟩ := mfn_place (HW.out.2.1.later mfnR_lasts HK.out.2) hlt
        obtain ⟨b2, o2, params', slots', ins', ja, jc, rfl, hy, e0, e1, e2, hR'⟩ := mfn_place (HW.out.2.2.1.later mfnR_lasts HK.out.2) hlt'
        have hki : (k : Int) < (fs.length : Int) := by omega
        have hki' : (k : Int) < (gs.length : Int) := by omega
        have HE := Lib.hid (fnEq_of hx hy)
        have hil := Nat.le_trans (sz_ins ⟨params, slots, ins⟩) (Nat.le_trans (szS_mem (sz := szMfnD) (List.mem_of_getElem? hx)) HW.out.2.2.2.1)
        have hil' := Nat.le_trans (sz_ins ⟨params', slots', ins'⟩) (Nat.le_trans (szS_mem (sz := szMfnD) (List.mem_of_getElem? hy)) HW.out.2.2.2.2)
        have hil : ins.length ≤ 1048576 := hil
        have hil' : ins'.length ≤ 1048576 := hil'
        have hb1 : Below wr.heap.size wr (wr.alloc (.cells #[.int .i64 params, .int .i64 slots, .slice ia ins.length ic] 35)) := (Below.refl _ _).alloc (Nat.le_refl _) _
        have hb2 : Below wr.heap.size wr ((wr.alloc (.cells #[.int .i64 params, .int .i64 slots, .slice ia ins.length ic] 35)).alloc (.cells #[.int .i64 params', .int .i64 slots', .slice ja ins'.length jc] 35)) := hb1.alloc (by simp) _
        have h1 := heap_alloc2_old wr (.cells #[.int .i64 params, .int .i64 slots, .slice ia ins.length ic] 35) (.cells #[.int .i64 params', .int .i64 slots', .slice ja ins'.length jc] 35)
        have h2 := heap_alloc2_new wr (.cells #[.int .i64 params, .int .i64 slots, .slice ia ins.length ic] 35) (.cells #[.int .i64 params', .int .i64 slots', .slice ja ins'.length jc] 35)
        have d0 := cell_later hb1 e0
        have d1 := cell_later hb1 e1
        have d2 := cell_later hb1 e2
        have n0 := cell_later hb1 m0
        obtain ⟨_, _, hcs, _, hrd⟩ := hR
        obtain ⟨_, _, hcs', _, hrd'⟩ := hR'
        simp only [List.cons.injEq, Value.slice.injEq, and_true, true_and] at hcs hcs'
        obtain ⟨rfl, rfl⟩ := hcs
        obtain ⟨rfl, rfl⟩ := hcs'
        have hrd : SliceRd 5 MinsR wr ia ins.length ins := hrd
        have hrd' : SliceRd 5 MinsR wr ja ins'.length ins' := hrd'
        have HX := Lib.hid (And.intro (hrd.later minsR_lasts hb2) (And.intro (hrd'.later minsR_lasts hb2) (And.intro h1 (And.intro h2 (HK.out.2.trans (hb2.mono HK.out.2.size))))))
        have HMV := Lib.hid (show mfnB ⟨params, slots, ins⟩ ⟨params', slots', ins'⟩ = (params == params' && (slots == slots' && ((ins.length == ins'.length) && allK (insEq ins ins') ins.length))) from rfl)
        have HF := Lib.hid (fun (h : mfnB ⟨params, slots, ins⟩ ⟨params', slots', ins'⟩ = false) => show sameP fs gs = false by rw [HV.out, allK_stop (HE.out.trans h) hlt])
        clear hx hy hrd hrd' hb1 hb2 h1 h2
        go_upto_region 8 with fail
        obtain ⟨q, hq⟩ : ∃ q, q = wr.heap.size := ⟨_, rfl⟩
        generalize (wr.alloc (.cells #[.int .i64 params, .int .i64 slots, .slice ia ins.length ic] 35)).alloc (.cells #[.int .i64 params', .int .i64 slots', .slice ja ins'.length jc] 35) = W2 at HX ⊢
        rw [← hq] at HX ⊢
        clear hq d0 d1 d2 n0 c0 c1 c2 e0 e1 e2 k0 m0
        have k0 := cell_of_row _ _ 0 _ _ _ HX.out.2.2.1
        have k1 := cell_of_row _ _ 1 _ _ _ HX.out.2.2.1
        have k2 := cell_of_row _ _ 2 _ _ _ HX.out.2.2.1
        have m0 := cell_of_row _ _ 0 _ _ _ HX.out.2.2.2.1
        have m1 := cell_of_row _ _ 1 _ _ _ HX.out.2.2.2.1
        have m2 := cell_of_row _ _ 2 _ _ _ HX.out.2.2.2.1
        simp only [List.getElem?_toArray, List.getElem?_cons_zero, List.getElem?_cons_succ] at k0 k1 k2 m0 m1 m2
        have HBX := Lib.hid (HW.out.1.trans (HX.out.2.2.2.2.mono HW.out.1.size))
        cases hp : (params == params') with
        | false =>
          have hpn : (params != params') = true := by rw [bne, hp]; rfl
          have HN := Lib.hid (HF.out (by rw [HMV.out, hp]; rfl))
          clear hp
          go_wp2
          go_ret
          exact ⟨ret_bool HN.out.symm, HBX.out⟩
        | true =>
          have hpn : (params != params') = false := by rw [bne, hp]; rfl
          cases hq : (slots == slots') with
          | false =>
            have hqn : (slots != slots') = true := by rw [bne, hq]; rfl
            have HN := Lib.hid (HF.out (by rw [HMV.out, hq]; simp))
            clear hp hq
            go_wp2
            go_ret
            exact ⟨ret_bool HN.out.symm, HBX.out⟩
          | true =>
            have hqn : (slots != slots') = false := by rw [bne, hq]; rfl
            by_cases hll : ins.length = ins'.length
            · have hlb : ((ins.length : Int) != (ins'.length : Int)) = false := by simp [hll]
              have HMV2 := Lib.hid (show mfnB ⟨params, slots, ins⟩ ⟨params', slots', ins'⟩ = allK (insEq ins ins') ins.length by rw [HMV.out, hp, hq, hll]; simp)
              have HLL := Lib.hid hll
              clear hp hq hll
              go_wp2_with fail
              go_loopg [8] ins.length (fun F i wq => ∃ j : Nat, j + F = ins.length ∧ i = .int .i64 j ∧ Hid (allK (insEq ins ins') j = true ∧ Below W2.heap.size W2 wq))
              case atStart => exact ⟨0, by omega, rfl, Lib.hid ⟨rfl, Below.refl _ _⟩⟩
              case round =>
                obtain ⟨j, hj, rfl, HJ⟩ := hrel
                have k2' := cell_later HJ.out.2 k2
                have m2' := cell_later HJ.out.2 m2
                have HBJ := Lib.hid (HBX.out.trans (HJ.out.2.mono HBX.out.size))
                by_cases hltj : j < ins.length
                · have hltj' : j < ins'.length := by have := HLL.out; omega
                  obtain ⟨b3, o3, op, fa, fb, fc, fn, hia, hx3, f0, f1, f2, f3, f4, _⟩ := mins_place (HX.out.1.later minsR_lasts HJ.out.2) hltj
                  obtain ⟨b4, o4, op', fa', fb', fc', fn', hja, hy3, g0, g1, g2, g3, g4, _⟩ := mins_place (HX.out.2.1.later minsR_lasts HJ.out.2) hltj'
                  rw [hia] at k2'
                  rw [hja] at m2'
                  have hji : (j : Int) < (ins.length : Int) := by omega
                  have hji' : (j : Int) < (ins'.length : Int) := by omega
                  have HE3 := Lib.hid (insEq_of hx3 hy3)
                  clear hx3 hy3 k0 k1 k2 m0 m1 m2 hia hja
                  cases hv : minsB ⟨op, fa, fb, fc, fn⟩ ⟨op', fa', fb', fc', fn'⟩ with
                  | true =>
                    have hsame := mins_same hv
                    simp only [MinsD.mk.injEq] at hsame
                    obtain ⟨rfl, rfl, rfl, rfl, rfl⟩ := hsame
                    have HN := Lib.hid (allK_next HJ.out.1 (HE3.out.trans hv))
                    clear hv
                    go_wp2_with fail
                    go_quiet (fail)
                    go_wp2
                    go_roundg (gk - 1)
                    case measure => omega
                    case rel => exact ⟨j + 1, by omega, by go_num, Lib.hid ⟨HN.out, below_drewN HJ.out.2 _⟩⟩
                  | false =>
                    have HN := Lib.hid (HF.out (by rw [HMV2.out, allK_stop (HE3.out.trans hv) hltj]))
                    have hd := mins_differ hv
                    simp only at hd
                    clear hv
                    rcases hd with h1 | ⟨h1, h2⟩ | ⟨h1, h2, h3⟩ | ⟨h1, h2, h3, h4⟩ | ⟨h1, h2, h3, h4, h5⟩
                    all_goals
                      go_wp2_with fail
                      go_quiet (fail)
                      go_wp2
                      go_ret
                      exact ⟨ret_bool HN.out.symm, below_drewN HBJ.out _⟩
                · obtain rfl : j = ins.length := by omega
                  have HN := Lib.hid (allK_next HK.out.1 (HE.out.trans (HMV2.out.trans HJ.out.1)))
                  have HBN := Lib.hid (HX.out.2.2.2.2.trans (HJ.out.2.mono HX.out.2.2.2.2.size))
                  clear k0 k1 k2 m0 m1 m2
                  go_wp2
                  go_roundg (fs.length - (k + 1))
                  case measure => omega
                  case rel => exact ⟨k + 1, by omega, by go_num, Lib.hid ⟨HN.out, HBN.out⟩⟩
            · have hlb : ((ins.length : Int) != (ins'.length : Int)) = true := by simp; omega
              have HN := Lib.hid (HF.out (by rw [HMV.out, show (ins.length == ins'.length) = false by simpa using hll]; simp))
              clear hp hq hll
              go_wp2
              go_ret
              exact ⟨ret_bool HN.out.symm, HBX.out⟩
      · obtain rfl : k = fs.length := by omega
        have HN := Lib.hid (HV.out.trans HK.out.1)
        have HBK := Lib.hid (HW.out.1.trans (HK.out.2.mono HW.out.1.size))
        go_wp2
        go_ret
        exact ⟨ret_bool HN.out.symm, HBK.out⟩
  · have hb : ((fs.length : Int) != (gs.length : Int)) = true := by simp; omega
    have HN := Lib.hid (show sameP fs gs = false by rw [sameP, show (fs.length == gs.length) = false by simpa using hl]; rfl)
    clear hl
    go_wp2
    go_ret
    exact ⟨ret_bool HN.out.symm, HW.out.1⟩

end Go.Proofs.Ytdkafajmhgfkoaa
