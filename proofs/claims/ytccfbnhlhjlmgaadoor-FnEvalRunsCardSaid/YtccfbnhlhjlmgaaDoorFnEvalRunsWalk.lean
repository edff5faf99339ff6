
/-
  The walk of the law FnEvalRuns.
-/
import Derived.Test.YtccfbnhlhjlmgaaDoorEr4
import Derived.Test.YtccfbnhlhjlmgaaDoorEs5
import Derived.Test.YtccfbnhlhjlmgaaDoorNumbers
namespace Go.Proofs.YtccfbnhlhjlmgaaDoor
open Go.RowKit
set_option linter.unusedVariables false

theorem nms_short {n : Nat} : ∀ s ∈ nms.take n, s.size ≤ maxLen := fun s hs => by
  have h : ∀ s ∈ nms, s.size ≤ maxLen := by decide
  exact h s (List.mem_of_mem_take hs)
theorem strsE_list {w : World} {a : Option Addr} {n : Nat} {xs : List ByteArray} (h : StrsE w a n xs) (hx : ∀ s ∈ xs, s.size ≤ maxLen) : ListK 1 strP (fun k => k < w.heap.size) w a xs := by
  have hf : ∀ ys : List ByteArray, (ys.map fun s => [Value.string s]).flatten = ys.map Value.string := fun ys => by
    induction ys with
    | nil => rfl
    | cons y ys ih => rw [List.map_cons, List.flatten_cons, ih]; rfl
  refine ⟨⟨rfl, xs.map fun s => [.string s], by rw [hf]; exact h.row, by simp, by intro c hc; obtain ⟨s, _, rfl⟩ := List.mem_map.1 hc; rfl, fun i cl x hc hx' => ?_⟩, fun hn => ?_⟩
  · rw [List.getElem?_map] at hc
    rw [hx'] at hc
    cases hc
    exact ⟨rfl, hx _ (List.mem_of_getElem? hx')⟩
  · obtain ⟨b, off, s, rfl, hs, hc⟩ := h.place (i := 0) (by rw [← h.length]; exact List.length_pos_iff.2 hn)
    have hb := World.block_lt_of_cell? w _ hc
    exact ⟨b, off, rfl, hb, hb⟩
theorem nms_apart {nn : Nat} (h : nn ≤ 3) : ∀ j s, (nms.take nn)[j]? = some s → s ∉ (nms.take nn).take j := by
  intro j s hs
  have hj : j < nn := by
    have := (List.getElem?_eq_some_iff.1 hs).1
    rw [List.length_take] at this
    omega
  rw [List.getElem?_take_of_lt hj] at hs
  rw [List.take_take, Nat.min_eq_left (by omega)]
  match j, (show j < 3 by omega), hs with
  | 0, _, _ => simp
  | 1, _, hs => cases hs; simp [nms]
  | 2, _, hs => cases hs; simp [nms]
/-- A program of one function, laid where it is made. -/
theorem ret_laid {w : World} {ns : List ByteArray} {na : Option Addr} {nc : Nat} {x : ExprD} {xa : Option Addr} {xc : Nat} (hx : ExprAt 12 w [.int .i64 x.op, .int .i64 x.n, .string x.name, .slice xa x.kids.length xc] x) (hL : anyE longP 12 x = false) (hns : ListK 1 strP (fun k => k < w.heap.size) w na ns) (hl : ns.length ≤ 3) (P4 : Obj) :
    ListK 3 (FnP 1) (fun _ => True) ((((w.alloc (.cells #[.int .i64 x.op, .int .i64 x.n, .string x.name, .slice xa x.kids.length xc] 29)).alloc (.cells #[.int .i64 7, .string ⟨#[]⟩, .slice (some ⟨w.heap.size, 0, none⟩) 1 1, .slice none 0 0, .slice none 0 0] 46)).alloc (.cells #[.string ⟨#[109]⟩, .slice na ns.length nc, .slice (some ⟨w.heap.size + 1, 0, none⟩) 1 1] 41)).alloc P4) (some ⟨w.heap.size + 1 + 1, 0, none⟩) [retF ns x] := by
  obtain ⟨h1, h2, h3, hb, hs⟩ := alloc3_blocks w (.cells #[.int .i64 x.op, .int .i64 x.n, .string x.name, .slice xa x.kids.length xc] 29) (.cells #[.int .i64 7, .string ⟨#[]⟩, .slice (some ⟨w.heap.size, 0, none⟩) 1 1, .slice none 0 0, .slice none 0 0] 46) (.cells #[.string ⟨#[109]⟩, .slice na ns.length nc, .slice (some ⟨w.heap.size + 1, 0, none⟩) 1 1] 41)
  generalize ((w.alloc (.cells #[.int .i64 x.op, .int .i64 x.n, .string x.name, .slice xa x.kids.length xc] 29)).alloc (.cells #[.int .i64 7, .string ⟨#[]⟩, .slice (some ⟨w.heap.size, 0, none⟩) 1 1, .slice none 0 0, .slice none 0 0] 46)).alloc (.cells #[.string ⟨#[109]⟩, .slice na ns.length nc, .slice (some ⟨w.heap.size + 1, 0, none⟩) 1 1] 41) = W at h1 h2 h3 hb hs ⊢
  have hxk : exprK 12 (fun _ => True) W [.int .i64 x.op, .int .i64 x.n, .string x.name, .slice xa x.kids.length xc] x := (exprK_stays 12).mono (fun _ _ _ => trivial) ((exprK_stays 12).below hb ⟨exprAt_P hx, hL⟩)
  have hargs := ListK.one (exprK_stays 12) (S := fun _ => True) h1 trivial hxk
  have hst : StmtP 1 (fun _ => True) W [.int .i64 7, .string ⟨#[]⟩, .slice (some ⟨w.heap.size, 0, none⟩) 1 1, .slice none 0 0, .slice none 0 0] (retS x) :=
    ⟨_, _, _, _, _, _, rfl, ⟨Nat.zero_le _, (by decide : (-9223372036854775808 : Int) ≤ 7), (by decide : (7 : Int) ≤ 9223372036854775807), (by decide : (1 : Nat) ≤ 100), (by decide : (0 : Nat) ≤ 100), (by decide : (0 : Nat) ≤ 100)⟩, hargs, ListK.nil _ _ _, ListK.nil _ _ _⟩
  have hbody := ListK.one (stmtP_stays 1) (S := fun _ => True) h2 trivial hst
  have hf : FnP 1 (fun _ => True) W [.string ⟨#[109]⟩, .slice na ns.length nc, .slice (some ⟨w.heap.size + 1, 0, none⟩) 1 1] (retF ns x) :=
    ⟨_, _, _, _, rfl, ⟨(by decide : (⟨#[109]⟩ : ByteArray).size ≤ maxLen), Nat.le_trans hl (by decide), (by decide : (1 : Nat) ≤ 100)⟩, (hns.below strP_stays hb).mono strP_stays (fun _ _ _ => trivial), hbody⟩
  exact (ListK.one (fnP_stays 1) (S := fun _ => True) h3 trivial hf).below (fnP_stays 1) ((Below.refl _ _).alloc (Nat.le_refl _) _)

set_option maxRecDepth 100000 in
set_option maxHeartbeats 8000000 in
theorem fnEvalRuns_walk (a : Option Addr) (len cap : Nat) (zs : List Int) (w : World) (hO : OpsAt w) (hK : KeysAt w) (hrow : IsRow .u8 w a len cap zs) :
    Calls Tryd.prog 12 #[.slice a len cap] w fun e w' => e = .returned (.bool true) ∧ Below w.heap.size w w' := by
  have hin := bytes_of_row hrow
  have hcap := cap_of_row hrow
  clear hrow
  by_cases hbig : 1048576 < len
  · go_enter Tryd.func12, Tryd.ntmps12
    go_wp2
    go_ret
    exact ⟨rfl, Below.refl _ _⟩
  go_enter Tryd.func12, Tryd.ntmps12
  go_wp2_with fail
  refine (drawEvalExpr_any w a len cap _ hin hcap).mono ?_
  rintro e w1 ⟨cs, x, na, nn, nc, va, vn, vc, vs, rfl, hx, hL, hns, hnn, hvs, hvn, hb1⟩
  obtain ⟨xa, xc, rfl⟩ := exprAt_form hx
  have HD := Lib.hid (And.intro (And.intro hx hL) (And.intro (And.intro hns hnn) (And.intro hvs hvn)))
  have HW := Lib.hid (And.intro hb1 (And.intro (hO.later hb1) (hK.later hb1)))
  clear hx hL hns hnn hvs hvn hb1 hO hK hin hcap hbig
  have hba : Below w1.heap.size w1 (w1.alloc (.cells #[.int .i64 x.op, .int .i64 x.n, .string x.name, .slice xa x.kids.length xc] 29)) := (Below.refl _ _).alloc (Nat.le_refl _) _
  have HE := Lib.hid (And.intro hba (heap_alloc_new w1 (.cells #[.int .i64 x.op, .int .i64 x.n, .string x.name, .slice xa x.kids.length xc] 29)))
  clear hba
  go_upto_region 4 with fail
  obtain ⟨eb, heb⟩ : ∃ b, b = w1.heap.size := ⟨_, rfl⟩
  rw [← heb] at HE ⊢
  generalize w1.alloc (.cells #[.int .i64 x.op, .int .i64 x.n, .string x.name, .slice xa x.kids.length xc] 29) = W2 at HE ⊢
  have HE1 := Lib.hid (show Below w1.heap.size w1 W2 from by rw [← heb]; exact HE.out.1)
  clear heb
  obtain ⟨r1, r2, hr⟩ : ∃ r1 r2, evalR2 (nms.take nn) vs 12 x = (r1, r2) := ⟨_, _, rfl⟩
  have HIM := Lib.hid (evalExprN_any 12 _ x (nms.take nn) vs na va nn nc vn vc W2 (HW.out.2.1.later HE1.out) (HW.out.2.2.later HE1.out) (exprAt_lasts 12 _ _ _ _ HE1.out HD.out.1.1) (HD.out.2.1.1.later HE1.out) (by have := HD.out.2.1.2; omega) nms_short (HD.out.2.2.1.later HE1.out) (by have := HD.out.2.2.2; omega))
  rw [hr] at HIM
  have HR := Lib.hid hr
  clear hr
  have e0 := cell_of_row _ _ 0 _ _ _ HE.out.2
  have e1 := cell_of_row _ _ 1 _ _ _ HE.out.2
  have e2 := cell_of_row _ _ 2 _ _ _ HE.out.2
  have e3 := cell_of_row _ _ 3 _ _ _ HE.out.2
  simp only [List.getElem?_toArray, List.getElem?_cons_zero, List.getElem?_cons_succ] at e0 e1 e2 e3
  go_wp2_with fail
  refine HIM.out.mono ?_
  rintro e w3 ⟨rfl, hb3⟩
  have H3 := Lib.hid (HE1.out.trans (hb3.mono HE1.out.size))
  have k0 := cell_later hb3 e0
  have k1 := cell_later hb3 e1
  have k2 := cell_later hb3 e2
  have k3 := cell_later hb3 e3
  clear hb3 HIM e0 e1 e2 e3
  have HSP := Lib.hid (evalExprS_any 12 _ x (nms.take nn) vs na va nn nc vn vc w3 (exprAt_lasts 12 _ _ _ _ H3.out HD.out.1.1) HD.out.1.2 (HD.out.2.1.1.later H3.out) (by have := HD.out.2.1.2; omega) (HD.out.2.2.1.later H3.out) (by have := HD.out.2.2.2; omega))
  rw [HR.out] at HSP
  go_wp2_with fail
  refine HSP.out.mono ?_
  rintro e w4 ⟨rfl, hb4⟩
  have H4 := Lib.hid (H3.out.trans (hb4.mono H3.out.size))
  have l0 := cell_later hb4 k0
  have l1 := cell_later hb4 k1
  have l2 := cell_later hb4 k2
  have l3 := cell_later hb4 k3
  clear hb4 HSP k0 k1 k2 k3 H3
  have hne1 : (r1 != r1) = false := by simp
  have hne2 : (r2 != r2) = false := by simp
  have heq1 : (r1 == r1) = true := by simp
  have heq2 : (r2 == r2) = true := by simp
  have hcase := evalR2_cases (nms.take nn) vs 12 x
  rw [HR.out] at hcase
  rcases hcase with hc | ⟨hv, hvl, hvb, hva, hc⟩
  · simp only [Prod.mk.injEq] at hc
    obtain ⟨rfl, rfl⟩ := hc
    go_wp2
    go_ret
    exact ⟨rfl, HW.out.1.trans (H4.out.mono HW.out.1.size)⟩
  have hend : ¬ r2 < 0 := by
    cases hg : evalV (valV (nms.take nn) vs) 12 x with
    | none => rw [hg] at hc; cases hc; omega
    | some v => rw [hg] at hc; cases hc; omega
  have hd2 : decide (r2 < 0) = false := decide_eq_false hend
  have HV := Lib.hid (And.intro hv (And.intro hvl (And.intro hvb hva)))
  have HC := Lib.hid hc
  clear hv hvl hvb hva hc hend
  by_cases h3 : 3 < nn
  · have h3i : (3 : Int) < (nn : Int) := by omega
    go_wp2
    go_ret
    exact ⟨rfl, HW.out.1.trans (H4.out.mono HW.out.1.size)⟩
  have h3i : ¬ (3 : Int) < (nn : Int) := by omega
  have hlen : (nms.take nn).length = nn := by rw [List.length_take]; simp [nms]; omega
  have HLN := Lib.hid (And.intro hlen (show nn ≤ 3 by omega))
  clear hlen
  have HOUT := Lib.hid (show (outP (evalV (valV (nms.take nn) vs) 12 x)).1 = r1 ∧ (outP (evalV (valV (nms.take nn) vs) 12 x)).2 = r2 from by
    have hcc := HC.out
    cases hg : evalV (valV (nms.take nn) vs) 12 x with
    | none => rw [hg] at hcc; simp only [arithP, Prod.mk.injEq] at hcc; exact ⟨hcc.1.symm, hcc.2.symm⟩
    | some v => rw [hg] at hcc; simp only [arithP, Prod.mk.injEq] at hcc; exact ⟨hcc.1.symm, hcc.2.symm⟩)
  have HP := Lib.hid (show ListK 3 (FnP 1) (fun _ => True) ((((w4.alloc (.cells #[.int .i64 x.op, .int .i64 x.n, .string x.name, .slice xa x.kids.length xc] 29)).alloc (.cells #[.int .i64 7, .string ⟨#[]⟩, .slice (some ⟨w4.heap.size, 0, none⟩) 1 1, .slice none 0 0, .slice none 0 0] 46)).alloc (.cells #[.string ⟨#[109]⟩, .slice na nn nc, .slice (some ⟨w4.heap.size + 1, 0, none⟩) 1 1] 41)).alloc (.cells #[.slice (some ⟨w4.heap.size + 1 + 1, 0, none⟩) 1 1] 34)) (some ⟨w4.heap.size + 1 + 1, 0, none⟩) [retF (nms.take nn) x] ∧ Below w4.heap.size w4 ((((w4.alloc (.cells #[.int .i64 x.op, .int .i64 x.n, .string x.name, .slice xa x.kids.length xc] 29)).alloc (.cells #[.int .i64 7, .string ⟨#[]⟩, .slice (some ⟨w4.heap.size, 0, none⟩) 1 1, .slice none 0 0, .slice none 0 0] 46)).alloc (.cells #[.string ⟨#[109]⟩, .slice na nn nc, .slice (some ⟨w4.heap.size + 1, 0, none⟩) 1 1] 41)).alloc (.cells #[.slice (some ⟨w4.heap.size + 1 + 1, 0, none⟩) 1 1] 34)) ∧ ((((w4.alloc (.cells #[.int .i64 x.op, .int .i64 x.n, .string x.name, .slice xa x.kids.length xc] 29)).alloc (.cells #[.int .i64 7, .string ⟨#[]⟩, .slice (some ⟨w4.heap.size, 0, none⟩) 1 1, .slice none 0 0, .slice none 0 0] 46)).alloc (.cells #[.string ⟨#[109]⟩, .slice na nn nc, .slice (some ⟨w4.heap.size + 1, 0, none⟩) 1 1] 41)).alloc (.cells #[.slice (some ⟨w4.heap.size + 1 + 1, 0, none⟩) 1 1] 34)).cell? ⟨w4.heap.size + 1 + 1 + 1, 0, none⟩ = some (.slice (some ⟨w4.heap.size + 1 + 1, 0, none⟩) 1 1) from by
    have h1 := ret_laid (nc := nc) (exprAt_lasts 12 _ _ _ _ H4.out HD.out.1.1) HD.out.1.2 (strsE_list (HD.out.2.1.1.later H4.out) nms_short) (by rw [HLN.out.1]; exact HLN.out.2) (.cells #[.slice (some ⟨w4.heap.size + 1 + 1, 0, none⟩) 1 1] 34)
    rw [HLN.out.1] at h1
    refine ⟨h1, ((((Below.refl _ _).alloc (Nat.le_refl _) _).alloc (by simp) _).alloc (by simp; omega) _).alloc (by simp; omega) _, ?_⟩
    have h2 := heap_alloc_new (((w4.alloc (.cells #[.int .i64 x.op, .int .i64 x.n, .string x.name, .slice xa x.kids.length xc] 29)).alloc (.cells #[.int .i64 7, .string ⟨#[]⟩, .slice (some ⟨w4.heap.size, 0, none⟩) 1 1, .slice none 0 0, .slice none 0 0] 46)).alloc (.cells #[.string ⟨#[109]⟩, .slice na nn nc, .slice (some ⟨w4.heap.size + 1, 0, none⟩) 1 1] 41)) (.cells #[.slice (some ⟨w4.heap.size + 1 + 1, 0, none⟩) 1 1] 34)
    rw [World.size_alloc, World.size_alloc, World.size_alloc] at h2
    exact cell_of_row _ _ 0 _ _ _ h2)
  obtain ⟨rfl⟩ : vn = nn := by have := HV.out.2.1; have := HLN.out.1; have := HD.out.2.2.1.length; omega
  go_upto_region 9 with fail
  obtain ⟨kb, hkb⟩ : ∃ n, n = w4.heap.size := ⟨_, rfl⟩
  rw [← hkb] at HP ⊢
  have HKB := Lib.hid hkb
  clear hkb l0 l1 l2 l3
  generalize (((w4.alloc (.cells #[.int .i64 x.op, .int .i64 x.n, .string x.name, .slice xa x.kids.length xc] 29)).alloc (.cells #[.int .i64 7, .string ⟨#[]⟩, .slice (some ⟨kb, 0, none⟩) 1 1, .slice none 0 0, .slice none 0 0] 46)).alloc (.cells #[.string ⟨#[109]⟩, .slice na nn nc, .slice (some ⟨kb + 1, 0, none⟩) 1 1] 41)).alloc (.cells #[.slice (some ⟨kb + 1 + 1, 0, none⟩) 1 1] 34) = W5 at HP ⊢
  have H5 := Lib.hid (show Below w1.heap.size w1 W5 from H4.out.trans (HP.out.2.1.mono (by have := H4.out.size; have := HKB.out; omega)))
  have p0 := HP.out.2.2
  have HRUN := Lib.hid (show Calls Tryd.prog 52 #[.agg #[.slice (some ⟨kb + 1 + 1, 0, none⟩) 1 1], .slice va nn vc, .int .i64 1] W5 fun e w' => ∃ a c, e = .returned (.tuple #[.agg #[.slice none 0 0, .int .i64 r2, .int .i64 r1, .slice a 16 c], .bool true]) ∧ Below W5.heap.size W5 w' from by
    have h1 := runProgram_any (ns := nms.take nn) (x := x) (D := 0) (fa := some ⟨kb + 1 + 1, 0, none⟩) (fc := 1) (vs := vs) (va := va) (vc := vc) (fun _ => True) W5 ⟨by rw [HLN.out.1]; exact HLN.out.2, fun s hs => nms_names s (List.mem_of_mem_take hs), nms_short, nms_apart HLN.out.2, HV.out.2.2.1, HV.out.1, HV.out.2.2.2⟩ (HW.out.2.1.later H5.out) (HW.out.2.2.later H5.out) HP.out.1 (by rw [HLN.out.1]; exact HD.out.2.2.1.later H5.out)
    rw [HLN.out.1, HOUT.out.1, HOUT.out.2] at h1
    exact h1)
  clear HP HKB HOUT
  go_wp2_with fail
  refine HRUN.out.mono ?_
  rintro e w6 ⟨oa, oc, rfl, hb6⟩
  have H6 := Lib.hid (HW.out.1.trans ((H5.out.trans (hb6.mono H5.out.size)).mono HW.out.1.size))
  clear hb6 p0
  have hrow := heap_alloc_new w6 (.cells #[.slice none 0 0, .int .i64 r2, .int .i64 r1, .slice oa 16 oc] 72)
  have q0 := cell_of_row _ _ 0 _ _ _ hrow
  have q1 := cell_of_row _ _ 1 _ _ _ hrow
  have q2 := cell_of_row _ _ 2 _ _ _ hrow
  simp only [List.getElem?_toArray, List.getElem?_cons_zero, List.getElem?_cons_succ] at q0 q1 q2
  clear hrow
  go_wp2
  go_ret
  exact ⟨rfl, H6.out.alloc H6.out.size _⟩

end Go.Proofs.YtccfbnhlhjlmgaaDoor
