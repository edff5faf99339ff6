
/-
  The walk of the law FnSafe.
-/
import Derived.Test.YtccfbnhlhjlmgaaDoorDs
import Derived.Test.YtccfbnhlhjlmgaaDoorEs5
import Derived.Test.YtccfbnhlhjlmgaaDoorNumbers
namespace Go.Proofs.YtccfbnhlhjlmgaaDoor
open Go.RowKit
set_option linter.unusedVariables false

theorem visit_size : ∀ (m : Nat) (x : ExprD) (acc : List ByteArray), anyE longP m x = false → (∀ s ∈ acc, s.size ≤ maxLen) → ∀ s ∈ visitD (addN 2) m x acc, s.size ≤ maxLen
  | 0, _, _, _, h => h
  | m + 1, x, acc, hl, h => by
    obtain ⟨h1, h2⟩ := any_partsE0 hl
    have h3 : ∀ s ∈ addN 2 x acc, s.size ≤ maxLen := by
      unfold addN
      split
      · intro s hs
        rcases List.mem_append.1 hs with hs | hs
        · exact h s hs
        · simp at hs
          subst hs
          have : decide (maxLen < x.name.size) = false := h1
          simpa using this
      · exact h
    have hf : ∀ (ks : List ExprD) (c : List ByteArray), (∀ k ∈ ks, anyE longP m k = false) → (∀ s ∈ c, s.size ≤ maxLen) → ∀ s ∈ ks.foldl (fun st k => visitD (addN 2) m k st) c, s.size ≤ maxLen := by
      intro ks
      induction ks with
      | nil => exact fun _ _ hc => hc
      | cons k ks ih =>
        intro c hk hc
        rw [List.foldl_cons]
        exact ih _ (fun k' hk' => hk k' (List.mem_cons_of_mem _ hk')) (visit_size m k c (hk k List.mem_cons_self) hc)
    exact hf x.kids _ h2 h3
theorem unsafe_bad {m : Nat} : ∀ {x : ExprD}, anyE unsafeP m x = false → anyE badQ m x = false := by
  induction m with
  | zero => exact fun _ => rfl
  | succ m ih =>
    intro x h
    obtain ⟨h1, h2⟩ := any_partsE0 h
    have hq : badQ x = false := by
      unfold unsafeP at h1
      rw [Bool.or_eq_false_iff, Bool.or_eq_false_iff] at h1
      unfold badQ
      rw [h1.1, h1.2.1]; rfl
    show (badQ x || x.kids.any (anyE badQ m)) = false
    rw [hq, Bool.false_or, List.any_eq_false]
    intro k hk
    rw [ih (h2 k hk)]
    simp
theorem safe_value {x : ExprD} {vs : List Int} (hs : safeD x = true) (hl : vs.length = (varsD x).length) (hb : bytesB vs = true) : ∃ v, evalR2 (varsD x) vs 6 x = (v, 0) := by
  obtain ⟨h1, h2⟩ := safeD_parts hs
  have hbad : anyE (badP (varsD x)) 6 x = false := visit_bad 6 x [] (unsafe_bad h2) (fun s h => h)
  obtain ⟨v, hv⟩ := safe_eval (G := valV (varsD x) vs) h1 (Nat.le_refl 6) hbad h2
  exact ⟨v, by rw [evalR2_mk h1 hl hb hbad, hv]; rfl⟩
theorem fold_safeD {x : ExprD} (h : safeD x = true) : safeD (foldE x) = true ∧ (sizeD nameD 6 x).isSome = true := by
  obtain ⟨h1, h2⟩ := safeD_parts h
  have hv : (sizeD nameD 6 x).isSome = true := by
    cases hq : sizeD nameD 6 x with
    | none => exact absurd hq h1
    | some q => rfl
  refine ⟨?_, hv⟩
  have h3 := fold_valid (d := 6) h1
  have hv3 : (sizeD nameD 6 (foldD 6 x)).isSome = true := by
    cases hq : sizeD nameD 6 (foldD 6 x) with
    | none => exact absurd hq h3
    | some q => rfl
  rw [foldE, if_pos hv, safeD, hv3, fold_safe h1 (Nat.le_refl 6) h2]
  rfl
theorem sq_range {k : Nat} (h : k ≤ 4096) : 0 ≤ (k : Int) * (k : Int) ∧ (k : Int) * (k : Int) ≤ 16777216 := by
  have h1 : k * k ≤ 4096 * 4096 := Nat.mul_le_mul h h
  have h2 : (k : Int) * (k : Int) = ((k * k : Nat) : Int) := by simp
  rw [h2]
  omega
/-- The values so far. -/
structure ValSt (W0 : World) (lo : Nat) (ia : Option Addr) (k ic : Nat) (is : List Int) (wr : World) : Prop where
  below : Below W0.heap.size W0 wr
  base : W0.heap.size ≤ lo ∧ lo ≤ wr.heap.size
  own : wr.ownsRow lo 3 1 (.slice ia k ic) k (is.map (Value.int .i64))
  bytes : bytesB is = true
theorem bytes_push {is : List Int} {v : Int} (h : bytesB is = true) (hv : 0 ≤ v ∧ v ≤ 255) : bytesB (is ++ [v]) = true := by
  unfold bytesB at h ⊢
  rw [List.all_append, h]
  simp [inE, hv.1, hv.2]

theorem ValSt.later {W0 : World} {lo : Nat} {ia : Option Addr} {k ic : Nat} {is : List Int} {wr w' : World} (h : ValSt W0 lo ia k ic is wr) (hb : Below wr.heap.size wr w') : ValSt W0 lo ia k ic is w' :=
  ⟨h.below.trans (hb.mono h.below.size), ⟨h.base.1, Nat.le_trans h.base.2 hb.size⟩, ownsRow_below h.own hb, h.bytes⟩
theorem ValSt.alloc (o : Obj) {W0 : World} {lo : Nat} {ia : Option Addr} {k ic : Nat} {is : List Int} {wr : World} (h : ValSt W0 lo ia k ic is wr) : ValSt W0 lo ia k ic is (wr.alloc o) := h.later ((Below.refl _ _).alloc (Nat.le_refl _) _)
theorem ValSt.push {W0 : World} {lo : Nat} {ia : Option Addr} {k ic : Nat} {is : List Int} {wr w' : World} {v : Int} {a' : Option Addr} {c' : Nat} (h : ValSt W0 lo ia k ic is wr) (hv : 0 ≤ v ∧ v ≤ 255) (hown : w'.ownsRow lo 3 1 (.slice a' (k + 1) c') (k + 1) (is.map (Value.int .i64) ++ [v].map (Value.int .i64))) (hg : wr.grownBy w' (Value.slice ia k ic).ownBlock) : ValSt W0 lo a' (k + 1) c' (is ++ [v]) w' := by
  have ht := turned_of_grown hg (S := fun i => (Value.slice ia k ic).ownBlock = some i) (fun i hi => hi)
  have hb : Below W0.heap.size wr w' := ht.below (B := W0.heap.size) h.below.size (fun i hi => by have := h.own.lt i hi; have := h.base.1; omega)
  refine ⟨h.below.trans hb, ⟨h.base.1, Nat.le_trans h.base.2 hb.size⟩, ?_, bytes_push h.bytes hv⟩
  rw [List.map_append]
  exact hown
theorem long_fit {m d : Nat} {x : ExprD} (hs : sizeD nameD m x ≠ none) (h : anyE longP d x = false) (hmd : m ≤ d := by omega) : anyE longP m x = false := by
  rw [anyE_fit hs (Nat.le_refl m) hmd]; exact h
set_option maxRecDepth 100000 in
set_option maxHeartbeats 8000000 in
theorem fnSafe_walk (a : Option Addr) (len cap : Nat) (zs : List Int) (w : World) (hO : OpsAt w) (hK : KeysAt w) (hrow : IsRow .u8 w a len cap zs) :
    Calls Tryd.prog 8 #[.slice a len cap] w fun e w' => e = .returned (.bool true) ∧ Below w.heap.size w w' := by
  have hin := bytes_of_row hrow
  have hcap := cap_of_row hrow
  clear hrow
  by_cases hbig : 1048576 < len
  · go_enter Tryd.func8, Tryd.ntmps8
    go_wp2
    go_ret
    exact ⟨rfl, Below.refl _ _⟩
  go_enter Tryd.func8, Tryd.ntmps8
  go_wp2_with fail
  refine (drawSafe_any w a len cap _ hin hcap).mono ?_
  rintro e w1 ⟨cs, x, rfl, hx, hL, hb1⟩
  obtain ⟨xa, xc, rfl⟩ := exprP_form hx
  have HD := Lib.hid (And.intro (exprP_here hx) hL)
  have HW := Lib.hid (And.intro hb1 (And.intro (hO.later hb1) (hK.later hb1)))
  clear hx hL hb1 hO hK hin hcap hbig
  have hba : Below w1.heap.size w1 (w1.alloc (.cells #[.int .i64 x.op, .int .i64 x.n, .string x.name, .slice xa x.kids.length xc] 29)) := (Below.refl _ _).alloc (Nat.le_refl _) _
  have HE := Lib.hid (And.intro hba (heap_alloc_new w1 (.cells #[.int .i64 x.op, .int .i64 x.n, .string x.name, .slice xa x.kids.length xc] 29)))
  clear hba
  go_upto_region 4 with fail
  obtain ⟨eb, heb⟩ : ∃ b, b = w1.heap.size := ⟨_, rfl⟩
  rw [← heb] at HE ⊢
  generalize w1.alloc (.cells #[.int .i64 x.op, .int .i64 x.n, .string x.name, .slice xa x.kids.length xc] 29) = W2 at HE ⊢
  have HE1 := Lib.hid (show Below w1.heap.size w1 W2 from by rw [← heb]; exact HE.out.1)
  clear heb
  have e0 := cell_of_row _ _ 0 _ _ _ HE.out.2
  have e1 := cell_of_row _ _ 1 _ _ _ HE.out.2
  have e2 := cell_of_row _ _ 2 _ _ _ HE.out.2
  have e3 := cell_of_row _ _ 3 _ _ _ HE.out.2
  simp only [List.getElem?_toArray, List.getElem?_cons_zero, List.getElem?_cons_succ] at e0 e1 e2 e3
  have HIM := Lib.hid (safeExpr_any 12 _ x W2 (HW.out.2.1.later HE1.out) (HW.out.2.2.later HE1.out) (exprAt_lasts 12 _ _ _ _ HE1.out (exprP_at HD.out.1)))
  cases hsafe : safeD x with
  | false =>
    rw [hsafe] at HIM
    go_wp2_with fail
    refine HIM.out.mono ?_
    rintro e w3 ⟨rfl, hb3⟩
    have H3 := Lib.hid (HE1.out.trans (hb3.mono HE1.out.size))
    have k0 := cell_later hb3 e0
    have k1 := cell_later hb3 e1
    have k2 := cell_later hb3 e2
    have k3 := cell_later hb3 e3
    clear hb3 HIM e0 e1 e2 e3
    have HSP := Lib.hid (safeExprS_any 12 _ x w3 (exprAt_lasts 12 _ _ _ _ H3.out (exprP_at HD.out.1)) HD.out.2)
    rw [hsafe] at HSP
    go_wp2_with fail
    refine HSP.out.mono ?_
    rintro e w4 ⟨rfl, hb4⟩
    have H4 := Lib.hid (H3.out.trans (hb4.mono H3.out.size))
    have l0 := cell_later hb4 k0
    have l1 := cell_later hb4 k1
    have l2 := cell_later hb4 k2
    have l3 := cell_later hb4 k3
    clear hb4 HSP k0 k1 k2 k3 H3
    have HSP := Lib.hid (safeExprS_any 12 _ x w4 (exprAt_lasts 12 _ _ _ _ H4.out (exprP_at HD.out.1)) HD.out.2)
    rw [hsafe] at HSP
    go_wp2_with fail
    refine HSP.out.mono ?_
    rintro e w5 ⟨rfl, hb5⟩
    have H5 := Lib.hid (H4.out.trans (hb5.mono H4.out.size))
    clear hb5 HSP l0 l1 l2 l3
    go_wp2
    go_ret
    exact ⟨rfl, HW.out.1.trans (H5.out.mono HW.out.1.size)⟩
  | true =>
    rw [hsafe] at HIM
    go_wp2_with fail
    refine HIM.out.mono ?_
    rintro e w3 ⟨rfl, hb3⟩
    have H3 := Lib.hid (HE1.out.trans (hb3.mono HE1.out.size))
    have k0 := cell_later hb3 e0
    have k1 := cell_later hb3 e1
    have k2 := cell_later hb3 e2
    have k3 := cell_later hb3 e3
    clear hb3 HIM e0 e1 e2 e3
    have HSP := Lib.hid (safeExprS_any 12 _ x w3 (exprAt_lasts 12 _ _ _ _ H3.out (exprP_at HD.out.1)) HD.out.2)
    rw [hsafe] at HSP
    have HSF := Lib.hid (And.intro hsafe (And.intro (safeD_parts hsafe).1 (fold_safeD hsafe)))
    clear hsafe
    go_wp2_with fail
    refine HSP.out.mono ?_
    rintro e w4 ⟨rfl, hb4⟩
    have H4 := Lib.hid (H3.out.trans (hb4.mono H3.out.size))
    have l0 := cell_later hb4 k0
    have l1 := cell_later hb4 k1
    have l2 := cell_later hb4 k2
    have l3 := cell_later hb4 k3
    clear hb4 HSP k0 k1 k2 k3 H3
    have HX := Lib.hid (And.intro (exprP_fit HSF.out.2.1 (exprP_below H4.out HD.out.1)) (And.intro (HW.out.2.1.later H4.out) (HW.out.2.2.later H4.out)))
    have HLI := Lib.hid (And.intro (litI w4 [0, 1, 2, 255]) (show Below w4.heap.size w4 (w4.alloc (.cells ([0, 1, 2, 255].map (Value.int .i64)).toArray 3)) from (Below.refl _ _).alloc (Nat.le_refl _) _))
    go_upto_region 8 with fail
    obtain ⟨la, hla⟩ : ∃ x, x = some (⟨w4.heap.size, 0, none⟩ : Addr) := ⟨_, rfl⟩
    rw [← hla] at HLI
    have HLI1 := Lib.hid HLI.out.1
    have HLI2 := Lib.hid HLI.out.2
    clear HLI
    obtain ⟨lb, hlb⟩ : ∃ b, b = w4.heap.size := ⟨_, rfl⟩
    have HLB := Lib.hid hlb
    change Hid (IntsRd (w4.alloc (.cells #[.int .i64 0, .int .i64 1, .int .i64 2, .int .i64 255] 3)) la 4 [0, 1, 2, 255]) at HLI1
    change Hid (Below w4.heap.size w4 (w4.alloc (.cells #[.int .i64 0, .int .i64 1, .int .i64 2, .int .i64 255] 3))) at HLI2
    rw [← hlb] at hla ⊢
    generalize w4.alloc (.cells #[.int .i64 0, .int .i64 1, .int .i64 2, .int .i64 255] 3) = W5 at HLI1 HLI2 ⊢
    have HLA := Lib.hid hla
    clear hlb hla
    have m0 := cell_later HLI2.out l0
    have m1 := cell_later HLI2.out l1
    have m2 := cell_later HLI2.out l2
    have m3 := cell_later HLI2.out l3
    have HX5 := Lib.hid (And.intro (exprP_below HLI2.out HX.out.1) (And.intro (HX.out.2.1.later HLI2.out) (HX.out.2.2.later HLI2.out)))
    have HB5 := Lib.hid (HW.out.1.trans ((H4.out.trans (HLI2.out.mono H4.out.size)).mono HW.out.1.size))
    clear l0 l1 l2 l3 HX HLI2 H4 HE HE1
    go_wp2_with fail
    go_loopg [35] 4 (fun G i wr => ∃ (j : Nat), j + G = 4 ∧ i = .int .i64 j ∧ Hid (Below W5.heap.size W5 wr))
    case atStart => exact ⟨0, by omega, rfl, Lib.hid (Below.refl _ _)⟩
    case round =>
      obtain ⟨j, hj, rfl, HR⟩ := hrel
      have e0 := cell_later HR.out m0
      have e1 := cell_later HR.out m1
      have e2 := cell_later HR.out m2
      have e3 := cell_later HR.out m3
      clear m0 m1 m2 m3
      by_cases hlt : j < 4
      · have hj4 : (j : Int) < 4 := by omega
        obtain ⟨xb, xo, n, hxa, hn, cn⟩ := (HLI1.out.later HR.out).place hlt
        rw [HLA.out] at hxa
        cases hxa
        rw [Nat.zero_add] at cn
        have HN := Lib.hid (show 0 ≤ n ∧ n ≤ 255 by have := List.mem_of_getElem? hn; simp at this; omega)
        clear hn
        have HVO := Lib.hid (varsOf_any _ x wr (HX5.out.2.1.later HR.out) (HX5.out.2.2.later HR.out) HSF.out.2.1 (exprP_at (exprP_below HR.out HX5.out.1)))
        go_wp2_with fail
        refine HVO.out.mono ?_
        rintro e w6 ⟨na, nn, nc, rfl, hns, hb6⟩
        have H6 := Lib.hid (And.intro hns (HR.out.trans (hb6.mono HR.out.size)))
        have HNN := Lib.hid (show nn = (varsD x).length ∧ nn ≤ 4096 from ⟨hns.length.symm, by have := varsD_len HSF.out.2.1; have := hns.length; omega⟩)
        have k0 := cell_later hb6 e0
        have k1 := cell_later hb6 e1
        have k2 := cell_later hb6 e2
        have k3 := cell_later hb6 e3
        clear hb6 hns e0 e1 e2 e3 HVO cn
        have HV := Lib.hid (show ValSt w6 w6.heap.size (some ⟨w6.heap.size, 0, none⟩) 0 0 [] (w6.alloc (.cells #[] 3)) from ⟨(Below.refl _ _).alloc (Nat.le_refl _) _, ⟨Nat.le_refl _, by simp⟩, own_empty w6 w6.heap.size 3 1 (Nat.le_refl _), rfl⟩)
        go_upto_region 12 with fail
        obtain ⟨ia0, hia⟩ : ∃ x, x = some (⟨w6.heap.size, 0, none⟩ : Addr) := ⟨_, rfl⟩
        rw [← hia] at HV ⊢
        generalize w6.alloc (.cells #[] 3) = W7 at HV ⊢
        clear hia
        go_wp2_with fail
        go_loopg [8, 44] nn (fun G s i wr => ∃ (ia : Option Addr) (k ic : Nat) (is : List Int), k + G = nn ∧ s = .slice ia k ic ∧ i = .int .i64 k ∧ Hid (ValSt w6 w6.heap.size ia k ic is wr))
        case atStart => exact ⟨ia0, 0, 0, [], by omega, rfl, rfl, HV⟩
        case round =>
          obtain ⟨ia, k, ic, is, hk, rfl, rfl, HS⟩ := hrel
          clear HV
          by_cases hlk : k < nn
          · have hki : (k : Int) < (nn : Int) := by omega
            have hkk : 0 ≤ (k : Int) * (k : Int) ∧ (k : Int) * (k : Int) ≤ 16777216 := sq_range (by have := HNN.out.2; omega)
            have hw1 : wrap64 ((k : Int) * (k : Int)) = (k : Int) * (k : Int) := IntWalk.wrap64_in _ (by omega)
            have hw2 : wrap64 (n + (k : Int) * (k : Int)) = n + (k : Int) * (k : Int) := IntWalk.wrap64_in _ (by have := HN.out; omega)
            obtain ⟨v, hv⟩ : ∃ v, v = (n + (k : Int) * (k : Int)).tmod 256 := ⟨_, rfl⟩
            have HVR := Lib.hid (show 0 ≤ v ∧ v ≤ 255 by
              rw [hv, Int.tmod_eq_emod_of_nonneg (by have := HN.out; omega)]
              have h1 := Int.emod_nonneg (n + (k : Int) * (k : Int)) (show (256 : Int) ≠ 0 by omega)
              have h2 := Int.emod_lt_of_pos (n + (k : Int) * (k : Int)) (show (0 : Int) < 256 by omega)
              omega)
            have hmod : (n + (k : Int) * (k : Int)).tmod 256 = v := hv.symm
            clear hv hkk
            have HS2 := Lib.hid (HS.out.alloc (.cells #[.int .i64 v] 3))
            have HKN := Lib.hid (show k ≤ 4096 by have := HNN.out.2; omega)
            go_wp2_with (at_builtin; refine app_ints rfl (.tmp 47) (.tmp 54) rfl w6.heap.size _ k _ rfl HS2.out.own _ 1 1 [v] rfl rfl (rowAt_laidE' wr [.int .i64 v] 3) (by simp) (by have := HKN.out; omega) HS2.out.base.2 ?_; intro a9 c9 w9 hown9 hg9 hlies9; (have HP9 := Lib.hid (HS2.out.push HVR.out hown9 hg9)); clear hown9 hg9 hlies9)
            go_roundg (nn - (k + 1))
            case measure => omega
            case rel => exact ⟨_, k + 1, _, _, by omega, rfl, congrArg (Value.int .i64) ((IntWalk.wrap64_in _ (by have := HKN.out; omega)).trans (by omega)), HP9⟩
          · obtain rfl : k = nn := by omega
            have HIL := Lib.hid (show is.length = k by have := HS.out.own.1; simpa using this)
            obtain ⟨q, hq⟩ := safe_value (vs := is) HSF.out.1 (by rw [HIL.out]; exact HNN.out.1) HS.out.bytes
            have HB7 := Lib.hid (H6.out.2.trans (HS.out.below.mono H6.out.2.size))
            have HEV := Lib.hid (evalExprN_any 6 _ x (varsD x) is na ia k nc k ic wr (HX5.out.2.1.later HB7.out) (HX5.out.2.2.later HB7.out) (exprP_at (exprP_below HB7.out HX5.out.1)) (H6.out.1.later HS.out.below) (by have := HNN.out.2; omega) (visit_size 6 x [] (long_fit HSF.out.2.1 HD.out.2) (by simp)) (ints_of_own HS.out.own).toIntsRd (by have := HNN.out.2; omega))
            rw [hq] at HEV
            clear hq
            have e0 := cell_later HS.out.below k0
            have e1 := cell_later HS.out.below k1
            have e2 := cell_later HS.out.below k2
            have e3 := cell_later HS.out.below k3
            clear k0 k1 k2 k3
            go_wp2_with fail
            refine HEV.out.mono ?_
            rintro e w8 ⟨rfl, hb8⟩
            have HB8 := Lib.hid (HB7.out.trans (hb8.mono HB7.out.size))
            clear hb8 HEV e0 e1 e2 e3
            go_wp2
            go_roundg (4 - (j + 1))
            case measure => omega
            case rel => exact ⟨j + 1, by omega, by go_num, HB8⟩
      · obtain rfl : j = 4 := by omega
        obtain ⟨y, hy⟩ : ∃ y, y = foldE x := ⟨_, rfl⟩
        have HFX := Lib.hid (foldExpr_any 6 (fun k => k < W5.heap.size) _ x wr (HX5.out.2.1.later HR.out) (HX5.out.2.2.later HR.out) (exprP_below HR.out (exprP_mono (fun k h _ => h) (exprP_here HX5.out.1))) (fun k h => Nat.lt_of_lt_of_le h HR.out.size))
        rw [HSF.out.2.2.2, ← hy] at HFX
        have HY := Lib.hid (show safeD y = true by rw [hy]; exact HSF.out.2.2.1)
        clear hy
        go_wp2_with fail
        refine HFX.out.mono ?_
        rintro e w6 ⟨cs6, rfl, hx6, hb6⟩
        obtain ⟨ya, yc, rfl⟩ := exprP_form hx6
        have hba : Below w6.heap.size w6 (w6.alloc (.cells #[.int .i64 y.op, .int .i64 y.n, .string y.name, .slice ya y.kids.length yc] 29)) := (Below.refl _ _).alloc (Nat.le_refl _) _
        have hrow := heap_alloc_new w6 (.cells #[.int .i64 y.op, .int .i64 y.n, .string y.name, .slice ya y.kids.length yc] 29)
        have HB6 := Lib.hid (HR.out.trans (hb6.mono HR.out.size))
        have HBA := Lib.hid (HB6.out.trans (hba.mono HB6.out.size))
        have HSY := Lib.hid (safeExpr_any 6 _ y _ (HX5.out.2.1.later HBA.out) (HX5.out.2.2.later HBA.out) (exprP_at (exprP_below hba hx6)))
        rw [HY.out] at HSY
        have g0 := cell_of_row _ _ 0 _ _ _ hrow
        have g1 := cell_of_row _ _ 1 _ _ _ hrow
        have g2 := cell_of_row _ _ 2 _ _ _ hrow
        have g3 := cell_of_row _ _ 3 _ _ _ hrow
        simp only [List.getElem?_toArray, List.getElem?_cons_zero, List.getElem?_cons_succ] at g0 g1 g2 g3
        clear hba hrow hx6 hb6 e0 e1 e2 e3 HFX
        go_wp2_with fail
        refine HSY.out.mono ?_
        rintro e w8 ⟨rfl, hb8⟩
        have HB8 := Lib.hid (HBA.out.trans (hb8.mono HBA.out.size))
        clear hb8 g0 g1 g2 g3
        go_wp2
        go_ret
        exact ⟨rfl, HB5.out.trans (HB8.out.mono HB5.out.size)⟩

end Go.Proofs.YtccfbnhlhjlmgaaDoor
