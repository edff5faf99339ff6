
/-
  Expressions with names: the program's EvalExpr.
-/
import Derived.Test.YtccfbnhlhjlmgaaDoorEy8
import Derived.Test.YtccfbnhlhjlmgaaDoorEyInts
import Derived.Carry
import Derived.Deep.DeepCutAuto
import Derived.StillTailTactics
namespace Go.Proofs.YtccfbnhlhjlmgaaDoor
open Go.RowKit

theorem VarsAt.more {w : World} {M n m : Nat} {G : ByteArray → Option Int} (h : VarsAt w M n G) (hm : n ≤ m) : VarsAt w M m G := by
  obtain ⟨D, h1, h2⟩ := h
  exact ⟨D, h1.mono hm, h2⟩
theorem VarsAt.same {w : World} {M n : Nat} {G G' : ByteArray → Option Int} (h : VarsAt w M n G) (hG : ∀ s, G s = G' s) : VarsAt w M n G' := by
  obtain rfl : G = G' := funext hG
  exact h
theorem valV_succ {s0 : ByteArray} {v0 : Int} (s : ByteArray) : ∀ {ns : List ByteArray} {vs : List Int} {j : Nat}, ns[j]? = some s0 → vs[j]? = some v0 →
    valV (ns.take (j + 1)) (vs.take (j + 1)) s = (match valV (ns.take j) (vs.take j) s with | some v => some v | none => if s = s0 then some v0 else none)
  | [], _, _, h, _ => by simp at h
  | _ :: _, [], _, _, h => by simp at h
  | n :: ns, v :: vs, 0, h, h' => by
    simp at h h'
    subst h; subst h'
    rfl
  | n :: ns, v :: vs, j + 1, h, h' => by
    have ih := valV_succ s (ns := ns) (vs := vs) (j := j) (by simpa using h) (by simpa using h')
    simp only [List.take_succ_cons, valV] at ih ⊢
    by_cases hs : s = n
    · rw [if_pos hs, if_pos hs]
    · rw [if_neg hs, if_neg hs]; exact ih
theorem valV_range {s : ByteArray} {v : Int} : ∀ {ns : List ByteArray} {vs : List Int}, bytesB vs = true → valV ns vs s = some v → 0 ≤ v ∧ v ≤ 255
  | [], _, _, h => by simp [valV] at h
  | _ :: _, [], _, h => by simp [valV] at h
  | n :: ns, u :: vs, hb, h => by
    rw [bytesB, List.all_cons, Bool.and_eq_true] at hb
    rw [valV] at h
    split at h
    · cases h
      simpa [inE] using hb.1
    · exact valV_range (vs := vs) hb.2 h

/-- What EvalExpr answers. -/
def evalR2 (ns : List ByteArray) (vs : List Int) (d : Nat) (x : ExprD) : Int × Int :=
  if ((sizeD nameD 6 x).isSome && (decide (vs.length = ns.length) && bytesB vs)) && !anyE (badP ns) d x then (match evalV (valV ns vs) d x with | some v => (v, 0) | none => (0, 1)) else (-1, -1)

set_option maxRecDepth 100000 in
set_option maxHeartbeats 8000000 in
theorem evalExprN_any (d : Nat) (cs : List Value) (x : ExprD) (ns : List ByteArray) (vs : List Int) (na va : Option Addr) (nn nc vn vc : Nat) (w : World) (hO : OpsAt w) (hK : KeysAt w) (hx : ExprAt d w cs x)
    (hns : StrsE w na nn ns) (hnn : nn ≤ 1099511627776) (hsz : ∀ s ∈ ns, s.size ≤ maxLen) (hvs : IntsRd w va vn vs) (hvn : vn ≤ 1099511627776) :
    Calls Tryd.prog 17 #[.agg cs.toArray, .slice na nn nc, .slice va vn vc] w fun e w' => e = .returned (.tuple #[.int .i64 (evalR2 ns vs d x).1, .int .i64 (evalR2 ns vs d x).2]) ∧ Below w.heap.size w w' := by
  cases d with
  | zero => exact hx.elim
  | succ d =>
  have hx2 := hx
  obtain ⟨ka, kc, rfl, _, _⟩ := hx2
  have hba : Below w.heap.size w ((w.alloc (.cells #[.int .i64 x.op, .int .i64 x.n, .string x.name, .slice ka x.kids.length kc] 29)).alloc (.cells #[.slice na nn nc] 38)) := ((Below.refl _ _).alloc (Nat.le_refl _) _).alloc (by simp) _
  have hE := heap_alloc2_old w (.cells #[.int .i64 x.op, .int .i64 x.n, .string x.name, .slice ka x.kids.length kc] 29) (.cells #[.slice na nn nc] 38)
  have hS := heap_alloc2_new w (.cells #[.int .i64 x.op, .int .i64 x.n, .string x.name, .slice ka x.kids.length kc] 29) (.cells #[.slice na nn nc] 38)
  obtain ⟨R, hR⟩ : ∃ R, R = evalR2 ns vs (d + 1) x := ⟨_, rfl⟩
  rw [← hR]
  have HR := Lib.hid hR
  have H1 := Lib.hid (And.intro hba (And.intro hE (And.intro hS (And.intro (exprAt_lasts (d + 1) _ _ _ _ hba hx) (And.intro (hO.later hba) (And.intro (hK.later hba) (And.intro (hns.later hba) (hvs.later hba))))))))
  have HLN := Lib.hid (show ns.length = nn ∧ vs.length = vn from ⟨hns.length, hvs.length⟩)
  have HSM := Lib.hid (And.intro hnn hvn)
  have HSZ := Lib.hid hsz
  have hnnI : (nn : Int) ≤ 1099511627776 := by omega
  clear hba hE hS hx hO hK hR hns hvs hnn hvn hsz
  go_enter Tryd.func17, Tryd.ntmps17
  go_upto_region 1 with fail
  generalize (w.alloc (.cells #[.int .i64 x.op, .int .i64 x.n, .string x.name, .slice ka x.kids.length kc] 29)).alloc (.cells #[.slice na nn nc] 38) = W1 at H1 ⊢
  obtain ⟨be, hbe⟩ : ∃ b, b = w.heap.size := ⟨_, rfl⟩
  have HW := Lib.hid (show Below w.heap.size w W1 from H1.out.1)
  have H2 := Lib.hid (show W1.heap[be]? = some (.cells #[.int .i64 x.op, .int .i64 x.n, .string x.name, .slice ka x.kids.length kc] 29 (0, 0)) ∧ W1.heap[be + 1]? = some (.cells #[.slice na nn nc] 38 (0, 0)) ∧ w.heap.size ≤ be from by rw [hbe]; exact ⟨H1.out.2.1, H1.out.2.2.1, Nat.le_refl _⟩)
  have HX := Lib.hid H1.out.2.2.2
  rw [← hbe]
  clear H1 hbe
  have HWL := Lib.hid (show be + 1 < W1.heap.size from (Array.getElem?_eq_some_iff.1 H2.out.2.1).1)
  obtain ⟨ok1, hok1⟩ : ∃ b, b = ((sizeD nameD 6 x).isSome && (decide (vn = nn) && bytesB vs)) := ⟨_, rfl⟩
  have HOK := Lib.hid hok1
  clear hok1
  go_cut [8] (fun s wx => ∃ bo : Nat, s = .pointer (some ⟨bo, 0, none⟩) ∧ Hid (Below w.heap.size w wx ∧ Below (be + 2) W1 wx ∧ wx.heap[bo]? = some (.cells #[.bool ok1] 4 (0, 0)) ∧ be + 1 < bo ∧ ∃ w0, ExprAt (d + 1) w0 [.int .i64 x.op, .int .i64 x.n, .string x.name, .slice ka x.kids.length kc] x ∧ (StrsE w0 na nn ns ∧ IntsRd w0 va vn vs ∧ w0.cell? ⟨be + 1, 0, none⟩ = some (.slice na nn nc)) ∧ w0.heap.size ≤ bo ∧ Below w0.heap.size w0 wx))
  case first =>
    have e0 := cell_of_row _ _ 0 _ _ _ H2.out.1
    have e1 := cell_of_row _ _ 1 _ _ _ H2.out.1
    have e2 := cell_of_row _ _ 2 _ _ _ H2.out.1
    have e3 := cell_of_row _ _ 3 _ _ _ H2.out.1
    have s0 := cell_of_row _ _ 0 _ _ _ H2.out.2.1
    simp only [List.getElem?_toArray, List.getElem?_cons_zero, List.getElem?_cons_succ] at e0 e1 e2 e3 s0
    go_wp2_with fail
    refine (exprValidN_any (d + 1) _ x W1 HX.out.2.1 HX.out.2.2.1 HX.out.1).mono ?_
    rintro e w2 ⟨rfl, hb2⟩
    have s1 := cell_later hb2 s0
    have HZ := Lib.hid (fun (wz : World) (hz : Below W1.heap.size W1 wz) (b : Bool) => show Below w.heap.size w (wz.alloc (.cells #[.bool b] 4)) ∧ Below (be + 2) W1 (wz.alloc (.cells #[.bool b] 4)) ∧ (wz.alloc (.cells #[.bool b] 4)).heap[wz.heap.size]? = some (.cells #[.bool b] 4 (0, 0)) ∧ be + 1 < wz.heap.size ∧ ∃ w0, ExprAt (d + 1) w0 [.int .i64 x.op, .int .i64 x.n, .string x.name, .slice ka x.kids.length kc] x ∧ (StrsE w0 na nn ns ∧ IntsRd w0 va vn vs ∧ w0.cell? ⟨be + 1, 0, none⟩ = some (.slice na nn nc)) ∧ w0.heap.size ≤ wz.heap.size ∧ Below w0.heap.size w0 (wz.alloc (.cells #[.bool b] 4)) from by
      have hba : Below wz.heap.size wz (wz.alloc (.cells #[.bool b] 4)) := (Below.refl _ _).alloc (Nat.le_refl _) _
      have h1 := hz.trans (hba.mono hz.size)
      exact ⟨HW.out.trans (h1.mono HW.out.size), h1.mono (by have := HWL.out; omega), heap_alloc_new wz _, by have := HWL.out; have := hz.size; omega, wz, exprAt_lasts (d + 1) _ _ _ _ hz HX.out.1, ⟨HX.out.2.2.2.1.later hz, HX.out.2.2.2.2.later hz, cell_later hz s0⟩, Nat.le_refl _, hba⟩)
    have H3 := Lib.hid hb2
    have HBO := Lib.hid (bytesOk_any va vn vc vs nn w2 (HX.out.2.2.2.2.later hb2) HSM.out.2)
    clear e0 e1 e2 e3 s0 hb2
    cases hv : (sizeD nameD 6 x).isSome with
    | false =>
      have hf : ok1 = false := by rw [HOK.out, hv]; rfl
      go_wp2_with fail
      go_meet
      exact ⟨w2.heap.size, rfl, Lib.hid (by rw [hf]; exact HZ.out w2 H3.out false)⟩
    | true =>
      have hf : ok1 = (decide (vn = nn) && bytesB vs) := by rw [HOK.out, hv]; rfl
      rw [← hf] at HBO
      clear hf
      go_wp2_with fail
      refine HBO.out.mono ?_
      rintro e w3 ⟨rfl, hb3⟩
      have H4 := Lib.hid (H3.out.trans (hb3.mono H3.out.size))
      clear hb3
      go_wp2_with fail
      go_meet
      exact ⟨_, rfl, Lib.hid (HZ.out w3 H4.out ok1)⟩
  case rest =>
  obtain ⟨bo, rfl, HC⟩ := hcut
  have hmm := @run_makeMap Tryd.prog
  have hmf : ∀ (fn : Fn) (first cap : Array Value) (w : World), (Instr.makeFunc fn first cap).run Tryd.prog w = .ok (.func fn first cap) w := fun _ _ _ _ => rfl
  go_upto_region 3 with fail
  have HV5 := Lib.hid (show Below wc.heap.size wc (((wc.alloc (.map #[] 0)).alloc (.cells #[.map (some wc.heap.size), .pointer none] 87)).alloc (.cells #[.pointer (some ⟨wc.heap.size + 1, 0, none⟩)] 84)) ∧ (((wc.alloc (.map #[] 0)).alloc (.cells #[.map (some wc.heap.size), .pointer none] 87)).alloc (.cells #[.pointer (some ⟨wc.heap.size + 1, 0, none⟩)] 84)).heap[wc.heap.size + 1 + 1]? = some (.cells #[.pointer (some ⟨wc.heap.size + 1, 0, none⟩)] 84 (0, 0)) ∧ (((wc.alloc (.map #[] 0)).alloc (.cells #[.map (some wc.heap.size), .pointer none] 87)).alloc (.cells #[.pointer (some ⟨wc.heap.size + 1, 0, none⟩)] 84)).heap[wc.heap.size + 1]? = some (.cells #[.map (some wc.heap.size), .pointer none] 87 (0, 0)) ∧ (((wc.alloc (.map #[] 0)).alloc (.cells #[.map (some wc.heap.size), .pointer none] 87)).alloc (.cells #[.pointer (some ⟨wc.heap.size + 1, 0, none⟩)] 84)).heap[wc.heap.size]? = some (.map #[] 0) from by
    have hnew := heap_alloc_new ((wc.alloc (.map #[] 0)).alloc (.cells #[.map (some wc.heap.size), .pointer none] 87)) (.cells #[.pointer (some ⟨wc.heap.size + 1, 0, none⟩)] 84)
    rw [World.size_alloc, World.size_alloc] at hnew
    have h1 : Below (wc.alloc (.map #[] 0)).heap.size (wc.alloc (.map #[] 0)) (((wc.alloc (.map #[] 0)).alloc (.cells #[.map (some wc.heap.size), .pointer none] 87)).alloc (.cells #[.pointer (some ⟨wc.heap.size + 1, 0, none⟩)] 84)) := ((Below.refl _ _).alloc (Nat.le_refl _) _).alloc (by simp) _
    have h2 : Below ((wc.alloc (.map #[] 0)).alloc (.cells #[.map (some wc.heap.size), .pointer none] 87)).heap.size ((wc.alloc (.map #[] 0)).alloc (.cells #[.map (some wc.heap.size), .pointer none] 87)) (((wc.alloc (.map #[] 0)).alloc (.cells #[.map (some wc.heap.size), .pointer none] 87)).alloc (.cells #[.pointer (some ⟨wc.heap.size + 1, 0, none⟩)] 84)) := (Below.refl _ _).alloc (Nat.le_refl _) _
    have n1 := heap_alloc_new wc (.map #[] 0)
    have n2 := heap_alloc_new (wc.alloc (.map #[] 0)) (.cells #[.map (some wc.heap.size), .pointer none] 87)
    rw [World.size_alloc] at n2
    exact ⟨((((Below.refl _ _).alloc (Nat.le_refl _) _).alloc (by simp) _).alloc (by simp; omega) _), hnew, (h2.block _ (by simp)).trans n2, (h1.block _ (by simp)).trans n1⟩)
  generalize ((wc.alloc (.map #[] 0)).alloc (.cells #[.map (some wc.heap.size), .pointer none] 87)).alloc (.cells #[.pointer (some ⟨wc.heap.size + 1, 0, none⟩)] 84) = W5 at HV5 ⊢
  obtain ⟨M, hM⟩ : ∃ b, b = wc.heap.size := ⟨_, rfl⟩
  have H5 := Lib.hid (show Below w.heap.size w W5 ∧ W5.heap[be]? = some (.cells #[.int .i64 x.op, .int .i64 x.n, .string x.name, .slice ka x.kids.length kc] 29 (0, 0)) ∧ W5.heap[be + 1]? = some (.cells #[.slice na nn nc] 38 (0, 0)) ∧ W5.heap[bo]? = some (.cells #[.bool ok1] 4 (0, 0)) ∧ (W5.heap[M + 1 + 1]? = some (.cells #[.pointer (some ⟨M + 1, 0, none⟩)] 84 (0, 0)) ∧ W5.heap[M + 1]? = some (.cells #[.map (some M), .pointer none] 87 (0, 0)) ∧ W5.heap[M]? = some (.map #[] 0)) ∧ (∃ w0, ExprAt (d + 1) w0 [.int .i64 x.op, .int .i64 x.n, .string x.name, .slice ka x.kids.length kc] x ∧ (StrsE w0 na nn ns ∧ IntsRd w0 va vn vs ∧ w0.cell? ⟨be + 1, 0, none⟩ = some (.slice na nn nc)) ∧ w0.heap.size ≤ bo ∧ Below w0.heap.size w0 W5) ∧ be + 1 < bo ∧ w.heap.size ≤ be ∧ bo < M from by
    obtain ⟨c1, c2, c3, c4, w0, c5, c5b, c6, c7⟩ := HC.out
    have b5 := HV5.out.1
    have hbo := (Array.getElem?_eq_some_iff.1 c3).1
    refine ⟨c1.trans (b5.mono c1.size), (b5.block _ (by omega)).trans ((c2.block _ (by omega)).trans H2.out.1), (b5.block _ (by omega)).trans ((c2.block _ (by omega)).trans H2.out.2.1), (b5.block _ hbo).trans c3, by rw [hM]; exact HV5.out.2, ⟨w0, c5, c5b, c6, c7.trans (b5.mono c7.size)⟩, c4, H2.out.2.2, by omega⟩)
  rw [← hM]
  clear hM HV5 HC H2 HX HW HWL
  have e0 := cell_of_row _ _ 0 _ _ _ H5.out.2.1
  have e1 := cell_of_row _ _ 1 _ _ _ H5.out.2.1
  have e2 := cell_of_row _ _ 2 _ _ _ H5.out.2.1
  have e3 := cell_of_row _ _ 3 _ _ _ H5.out.2.1
  have s0 := cell_of_row _ _ 0 _ _ _ H5.out.2.2.1
  simp only [List.getElem?_toArray, List.getElem?_cons_zero, List.getElem?_cons_succ] at e0 e1 e2 e3 s0
  have o0 := cell_of_row _ _ 0 _ _ _ H5.out.2.2.2.1
  simp only [List.getElem?_toArray, List.getElem?_cons_zero] at o0
  cases ok1 with
  | false =>
    have HN := Lib.hid (show R = (-1, -1) by rw [HR.out, evalR2, HLN.out.1, HLN.out.2, ← HOK.out]; rfl)
    go_wp2
    go_ret2
    exact ⟨by rw [HN.out]; rfl, H5.out.1⟩
  | true =>
    obtain ⟨w0, hx0, ⟨hns0, hvs0, hcn0⟩, hw0, hb0⟩ := H5.out.2.2.2.2.2.1
    have HP := Lib.hid (partsN_any bo (be + 1) ns na nn nc w0 hw0 hcn0 hns0 (by have := HSM.out.1; unfold maxLen; omega) (d + 1) true _ x W5 hx0 hb0 H5.out.2.2.2.1)
    have HX0 := Lib.hid (show ExprAt (d + 1) w0 [.int .i64 x.op, .int .i64 x.n, .string x.name, .slice ka x.kids.length kc] x ∧ StrsE w0 na nn ns ∧ IntsRd w0 va vn vs ∧ w0.heap.size ≤ bo ∧ Below w0.heap.size w0 W5 from ⟨hx0, hns0, hvs0, hw0, hb0⟩)
    clear hx0 hw0 hb0 hns0 hvs0 hcn0
    go_wp2_with fail
    refine HP.out.mono ?_
    rintro e w6 ⟨rfl, ho6, ht6⟩
    have H6 := Lib.hid (show Below w.heap.size w w6 ∧ w6.heap[be]? = some (.cells #[.int .i64 x.op, .int .i64 x.n, .string x.name, .slice ka x.kids.length kc] 29 (0, 0)) ∧ w6.heap[be + 1]? = some (.cells #[.slice na nn nc] 38 (0, 0)) ∧ (w6.heap[M + 1 + 1]? = some (.cells #[.pointer (some ⟨M + 1, 0, none⟩)] 84 (0, 0)) ∧ w6.heap[M + 1]? = some (.cells #[.map (some M), .pointer none] 87 (0, 0)) ∧ w6.heap[M]? = some (.map #[] 0)) ∧ (ExprAt (d + 1) w0 [.int .i64 x.op, .int .i64 x.n, .string x.name, .slice ka x.kids.length kc] x ∧ StrsE w0 na nn ns ∧ IntsRd w0 va vn vs ∧ w0.heap.size ≤ M ∧ Below w0.heap.size w0 w6) ∧ be + 1 < M ∧ w.heap.size ≤ M ∧ M + 1 + 1 < w6.heap.size from by
      obtain ⟨c1, c2, c3, c4, ⟨c5, c5b, c5c⟩, -, c6, c7, c8⟩ := H5.out
      obtain ⟨hx0, hns0, hvs0, hw0, hb0⟩ := HX0.out
      have b6 := ht6.below (B := w0.heap.size) hb0.size (fun k hk => by omega)
      have b6w := ht6.below (B := w.heap.size) c1.size (fun k hk => by omega)
      have hm5 := (Array.getElem?_eq_some_iff.1 c5).1
      exact ⟨c1.trans b6w, (ht6.block _ (Array.getElem?_eq_some_iff.1 c2).1 (by omega)).trans c2, (ht6.block _ (Array.getElem?_eq_some_iff.1 c3).1 (by omega)).trans c3, ⟨(ht6.block _ hm5 (by omega)).trans c5, (ht6.block _ (by omega) (by omega)).trans c5b, (ht6.block _ (by omega) (by omega)).trans c5c⟩, ⟨hx0, hns0, hvs0, by omega, hb0.trans b6⟩, by omega, by omega, Nat.lt_of_lt_of_le hm5 ht6.size⟩)
    have o6 := cell_of_row _ _ 0 _ _ _ ho6
    simp only [List.getElem?_toArray, List.getElem?_cons_zero, Bool.true_and] at o6
    clear ht6 ho6 HX0 H5 e0 e1 e2 e3 s0 o0
    cases ha : anyE (badP ns) (d + 1) x with
    | true =>
      have HN := Lib.hid (show R = (-1, -1) by rw [HR.out, evalR2, HLN.out.1, HLN.out.2, ← HOK.out, ha]; rfl)
      rw [ha] at o6
      simp only [Bool.not_true] at o6
      clear ha
      go_wp2
      go_ret2
      exact ⟨by rw [HN.out]; rfl, H6.out.1⟩
    | false =>
      have HNN := Lib.hid (show R = (match evalV (valV ns vs) (d + 1) x with | some v => (v, 0) | none => (0, 1)) by rw [HR.out, evalR2, HLN.out.1, HLN.out.2, ← HOK.out, ha]; rfl)
      have HA := Lib.hid ha
      have HOKB := Lib.hid (show (sizeD nameD 6 x).isSome = true ∧ vn = nn ∧ bytesB vs = true by
        have h1 := HOK.out.symm
        rw [Bool.and_eq_true, Bool.and_eq_true, decide_eq_true_eq] at h1
        exact h1)
      rw [ha] at o6
      simp only [Bool.not_false] at o6
      clear ha
      have e0 := cell_of_row _ _ 0 _ _ _ H6.out.2.1
      have e1 := cell_of_row _ _ 1 _ _ _ H6.out.2.1
      have e2 := cell_of_row _ _ 2 _ _ _ H6.out.2.1
      have e3 := cell_of_row _ _ 3 _ _ _ H6.out.2.1
      have s0 := cell_of_row _ _ 0 _ _ _ H6.out.2.2.1
      simp only [List.getElem?_toArray, List.getElem?_cons_zero, List.getElem?_cons_succ] at e0 e1 e2 e3 s0
      go_wp2_with fail
      clear e0 e1 e2 e3 s0 o6
      go_loopg [35] nn (fun F i wr => ∃ j : Nat, j + F = nn ∧ i = .int .i64 j ∧ Hid (VarsAt wr M j (valV (ns.take j) (vs.take j)) ∧ Turned (fun k => k = M) w6 wr))
      case atStart => exact ⟨0, by omega, rfl, Lib.hid ⟨(VarsAt.of H6.out.2.2.2.1.2.2).same (fun s => by cases ns <;> rfl), Turned.refl _ _⟩⟩
      case round =>
        obtain ⟨j, hj, rfl, HR2⟩ := hrel
        have HBW := Lib.hid (show Below w0.heap.size w0 wr from H6.out.2.2.2.2.1.2.2.2.2.trans (HR2.out.2.below (B := w0.heap.size) H6.out.2.2.2.2.1.2.2.2.2.size (fun k hk => by have := H6.out.2.2.2.2.1.2.2.2.1; omega)))
        have v0 := cell_of_row _ _ 0 _ _ _ ((HR2.out.2.block (M + 1 + 1) H6.out.2.2.2.2.2.2.2 (by omega)).trans H6.out.2.2.2.1.1)
        have m0 := cell_of_row _ _ 0 _ _ _ ((HR2.out.2.block (M + 1) (by have := H6.out.2.2.2.2.2.2.2; omega) (by omega)).trans H6.out.2.2.2.1.2.1)
        simp only [List.getElem?_toArray, List.getElem?_cons_zero] at v0 m0
        by_cases hlt : j < nn
        · obtain ⟨b1, o1, s, rfl, hs, hc⟩ := (H6.out.2.2.2.2.1.2.1.later HBW.out).place hlt
          obtain ⟨b2, o2, u, rfl, hu, hcu⟩ := (H6.out.2.2.2.2.1.2.2.1.later HBW.out).place (show j < vn by have := HOKB.out.2.1; omega)
          have hji : (j : Int) < (nn : Int) := by omega
          have hjv : (j : Int) < (vn : Int) := by have := HOKB.out.2.1; omega
          have hss := HSZ.out s (List.mem_of_getElem? hs)
          have hlk := HR2.out.1.look_ok hss
          have HSU := Lib.hid (fun t => valV_succ t hs hu)
          cases hg : valV (ns.take j) (vs.take j) s with
          | some v =>
            rw [hg] at hlk
            simp only [Option.getD_some, Option.isSome_some] at hlk
            have HN := Lib.hid (show VarsAt wr M (j + 1) (valV (ns.take (j + 1)) (vs.take (j + 1))) ∧ Turned (fun k => k = M) w6 wr from
              ⟨(HR2.out.1.more (Nat.le_succ _)).same (fun t => by
                rw [HSU.out t]
                cases ht : valV (ns.take j) (vs.take j) t with
                | some v' => rfl
                | none =>
                  by_cases hts : t = s
                  · subst hts; rw [hg] at ht; cases ht
                  · show _ = if t = s then _ else _
                    rw [if_neg hts]), HR2.out.2⟩)
            clear hg hs hu hss
            go_wp2
            go_roundg (gk - 1)
            case measure => omega
            case rel => exact ⟨j + 1, by omega, by go_num, HN⟩
          | none =>
            rw [hg] at hlk
            simp only [Option.getD_none, Option.isSome_none] at hlk
            have hur : -9223372036854775808 ≤ u ∧ u ≤ 9223372036854775807 := by
              have h1 := List.all_eq_true.1 HOKB.out.2.2 u (List.mem_of_getElem? hu)
              simp only [inE, Bool.and_eq_true, decide_eq_true_eq] at h1
              omega
            have HG0 := Lib.hid hg
            clear hg hs hu
            go_upto_region 12 with fail
            obtain ⟨w2, hput, hV2, hg2⟩ := (HR2.out.1.stay (w' := wr.drew) rfl).put (show j < maxLen by have := HSM.out.1; unfold maxLen; omega) hss (WalkArith.wf_i64 hur)
            have HN := Lib.hid (show VarsAt w2 M (j + 1) (valV (ns.take (j + 1)) (vs.take (j + 1))) ∧ Turned (fun k => k = M) w6 w2 from
              ⟨hV2.same (fun t => by
                rw [HSU.out t]
                by_cases hts : t = s
                · subst hts
                  rw [if_pos rfl, HG0.out, if_pos rfl]
                · rw [if_neg hts]
                  cases valV (ns.take j) (vs.take j) t with
                  | some v' => rfl
                  | none =>
                    show _ = if t = s then _ else _
                    rw [if_neg hts]), HR2.out.2.trans ⟨hg2.os, hg2.tape, hg2.output, hg2.size, fun k hk hne => hg2.block k hk (fun e => hne (Option.some.inj e))⟩⟩)
            clear hV2 hg2 hss hur
            go_still_tail 9, (by kernel_rfl)
            change wpList _ _ _ _ _ wr.drew
            go_wp2
            go_roundg (gk - 1)
            case measure => omega
            case rel => exact ⟨j + 1, by omega, by go_num, HN⟩
        · obtain rfl : j = nn := by omega
          have HENV := Lib.hid (show EnvAt wr (M + 1) M j (valV ns vs) from ⟨m0, cell_of_row _ _ 1 _ _ _ ((HR2.out.2.block (M + 1) (by have := H6.out.2.2.2.2.2.2.2; omega) (by omega)).trans H6.out.2.2.2.1.2.1), by
            have h1 := HR2.out.1
            rw [List.take_of_length_le (by rw [HLN.out.1]; exact Nat.le_refl _), List.take_of_length_le (by rw [HLN.out.2, HOKB.out.2.1]; exact Nat.le_refl _)] at h1
            exact h1⟩)
          have hbe : wr.heap[be]? = some (.cells #[.int .i64 x.op, .int .i64 x.n, .string x.name, .slice ka x.kids.length kc] 29 (0, 0)) := (HR2.out.2.block be (by have := (Array.getElem?_eq_some_iff.1 H6.out.2.1).1; exact this) (by have := H6.out.2.2.2.2.2.1; omega)).trans H6.out.2.1
          have hbw : Below w.heap.size w wr := H6.out.1.trans (HR2.out.2.below (B := w.heap.size) H6.out.1.size (fun k hk => by have := H6.out.2.2.2.2.2.2.1; omega))
          go_upto_region 15 with fail
          have hba : Below wr.heap.size wr (wr.alloc (.cells #[.int .i64 0] 3)) := (Below.refl _ _).alloc (Nat.le_refl _) _
          have H7 := Lib.hid (show Below w.heap.size w (wr.alloc (.cells #[.int .i64 0] 3)) ∧ w.heap.size ≤ wr.heap.size from ⟨hbw.trans (hba.mono hbw.size), hbw.size⟩)
          have HCA := Lib.hid (caughtN_any ns (valV ns vs) (M + 1) M j HSZ.out (fun s v h => valV_range HOKB.out.2.2 h) be (M + 1 + 1) wr.heap.size (d + 1) 6 _ x 0 _ (exprAt_lasts (d + 1) _ _ _ _ (HBW.out.trans (hba.mono HBW.out.size)) H6.out.2.2.2.2.1.1) (by intro h; have := HOKB.out.1; rw [h] at this; cases this) HA.out (HENV.out.later hba) ((hba.block _ (Array.getElem?_eq_some_iff.1 hbe).1).trans hbe) (cell_later hba v0) (heap_alloc_new wr (.cells #[.int .i64 0] 3)))
          clear hba hbw hbe v0 m0
          go_wp2_with fail
          refine HCA.out.mono ?_
          rintro e w8 (⟨hev, rfl, hb8⟩ | ⟨v, hev, rfl, hn8, ht8⟩)
          · have HN := Lib.hid (show R = (0, 1) by rw [HNN.out, hev])
            have HE := Lib.hid (H7.out.1.trans (hb8.mono H7.out.1.size))
            clear hev hb8
            go_wp2
            go_ret2
            exact ⟨by rw [HN.out]; rfl, HE.out⟩
          · have HN := Lib.hid (show R = (v, 0) by rw [HNN.out, hev])
            have HE := Lib.hid (H7.out.1.trans (ht8.below (B := w.heap.size) H7.out.1.size (fun k hk => by have := H7.out.2; omega)))
            have n8 := cell_of_row _ _ 0 _ _ _ hn8
            simp only [List.getElem?_toArray, List.getElem?_cons_zero] at n8
            clear hev ht8 hn8
            go_wp2
            go_ret2
            exact ⟨by rw [HN.out]; rfl, HE.out⟩

end Go.Proofs.YtccfbnhlhjlmgaaDoor
