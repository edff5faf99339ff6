/-
  StmtValid, StmtCount and NestOf (the program's).
-/
import Derived.Test.YtccfbnhlhjlmgaaDoorVk
import Derived.Test.YtccfbnhlhjlmgaaDoorLaw
import Derived.Maps.OwnSet
import Derived.Maps.Views
import Derived.Test.YtccfbnhlhjlmgaaDoorRd

namespace Go.Proofs.YtccfbnhlhjlmgaaDoor
open Go.RowKit
set_option linter.unusedVariables false

set_option maxHeartbeats 1000000 in
theorem stmtValidI_any (D : Nat) (S : Nat → Prop) (cs : List Value) (s : StmtD) (w : World) (hO : OpsAt w) (hK : KeysAt w) (h : StmtP D S w cs s) :
    Calls Tryd.prog 25 #[.agg cs.toArray] w fun e w' => e = .returned (.bool (stmtB 4 s)) ∧ Below w.heap.size w w' := by
  obtain ⟨aa, ac, ba, bc, ea, ec, rfl⟩ := stmtP_form h
  have hba : Below w.heap.size w (w.alloc (.cells #[.int .i64 s.op, .string s.name, .slice aa s.args.length ac, .slice ba s.body.length bc, .slice ea s.els.length ec] 46)) := (Below.refl _ _).alloc (Nat.le_refl _) _
  have HB := Lib.hid (And.intro hba (stmtOk_any D 4 S _ s _ (by omega) (hO.later hba) (hK.later hba) ((stmtP_stays D).below hba h)))
  have hrow := heap_alloc_new w (.cells #[.int .i64 s.op, .string s.name, .slice aa s.args.length ac, .slice ba s.body.length bc, .slice ea s.els.length ec] 46)
  have p0 := cell_of_row _ _ 0 _ _ _ hrow
  have p1 := cell_of_row _ _ 1 _ _ _ hrow
  have p2 := cell_of_row _ _ 2 _ _ _ hrow
  have p3 := cell_of_row _ _ 3 _ _ _ hrow
  have p4 := cell_of_row _ _ 4 _ _ _ hrow
  simp only [List.getElem?_toArray, List.getElem?_cons_zero, List.getElem?_cons_succ] at p0 p1 p2 p3 p4
  clear hrow hba h hO hK
  go_enter Tryd.func25, Tryd.ntmps25
  go_wp2_with fail
  refine HB.out.2.mono ?_
  rintro e w5 ⟨rfl, hb5⟩
  have HB5 := Lib.hid (HB.out.1.trans (hb5.mono HB.out.1.size))
  clear hb5 p0 p1 p2 p3 p4
  go_wp2
  go_ret
  exact ⟨rfl, HB5.out⟩

set_option maxHeartbeats 1000000 in
theorem stmtCountI_any (D : Nat) (S : Nat → Prop) (a : Option Addr) (c : Nat) (p : List FnD) (w : World) (hO : OpsAt w) (hK : KeysAt w) (h : ListK 3 (FnP D) S w a p) (hl : p.length ≤ 100) :
    Calls Tryd.prog 27 #[.agg #[.slice a p.length c]] w fun e w' => e = .returned (.int .i64 (countP p)) ∧ Below w.heap.size w w' := by
  obtain ⟨R, hR⟩ : ∃ R, R = countP p := ⟨_, rfl⟩
  rw [← hR]
  have hba : Below w.heap.size w (w.alloc (.cells #[.slice a p.length c] 34)) := (Below.refl _ _).alloc (Nat.le_refl _) _
  have HB := Lib.hid (And.intro hba (And.intro (h.below (fnP_stays D) hba) (And.intro hl (And.intro (hO.later hba) (hK.later hba)))))
  have hrow := heap_alloc_new w (.cells #[.slice a p.length c] 34)
  have HV := Lib.hid (progValidI_any D S a c p _ HB.out.2.2.2.1 HB.out.2.2.2.2 HB.out.2.1 hl)
  clear hba h hO hK
  go_enter Tryd.func27, Tryd.ntmps27
  go_upto_region 1 with fail
  obtain ⟨pb, hpb⟩ : ∃ b, b = w.heap.size := ⟨_, rfl⟩
  rw [← hpb] at hrow ⊢
  generalize w.alloc (.cells #[.slice a p.length c] 34) = W1 at hrow HB HV ⊢
  have HBW := Lib.hid (show Below w.heap.size w W1 from HB.out.1)
  clear hpb
  have p0 := cell_of_row _ _ 0 _ _ _ hrow
  simp only [List.getElem?_toArray, List.getElem?_cons_zero] at p0
  clear hrow
  cases hv : progB p with
  | false =>
    rw [hv] at HV
    have HF := Lib.hid (show (-1 : Int) = R by rw [hR, countP, hv]; rfl)
    clear hv hR
    go_wp2_with fail
    refine HV.out.mono ?_
    rintro e w5 ⟨rfl, hb5⟩
    have HB5 := Lib.hid (HBW.out.trans (hb5.mono HBW.out.size))
    clear hb5 p0
    go_wp2
    go_ret
    exact ⟨ret_int HF.out, HB5.out⟩
  | true =>
    rw [hv] at HV
    have HF := Lib.hid (show ((cntP p : Nat) : Int) = R by rw [hR, countP, hv]; rfl)
    have HALL := Lib.hid (show p.all fnB = true by simp only [progB, formP, Bool.and_eq_true] at hv; exact hv.1.2)
    clear hv hR
    go_wp2_with fail
    refine HV.out.mono ?_
    rintro e w5 ⟨rfl, hb5⟩
    have q0 := cell_later hb5 p0
    have HB5 := Lib.hid (HBW.out.trans (hb5.mono HBW.out.size))
    have HC := Lib.hid (measure_any S a c p w5 (progP_fit HALL.out (HB.out.2.1.below (fnP_stays D) hb5)) HB.out.2.2.1)
    obtain ⟨N, hN⟩ : ∃ n : Int, n = (cntP p : Nat) := ⟨_, rfl⟩
    obtain ⟨M, hM⟩ : ∃ n : Int, n = (nestP p : Nat) := ⟨_, rfl⟩
    rw [← hN, ← hM] at HC
    rw [← hN] at HF
    clear hN hM
    clear hb5 p0
    go_wp2_with fail
    refine HC.out.mono ?_
    rintro e w6 ⟨rfl, hb6⟩
    have HB6 := Lib.hid (HB5.out.trans (hb6.mono HB5.out.size))
    clear hb6 q0
    go_wp2
    go_ret
    exact ⟨ret_int HF.out, HB6.out⟩

set_option maxHeartbeats 1000000 in
theorem nestOfI_any (D : Nat) (S : Nat → Prop) (a : Option Addr) (c : Nat) (p : List FnD) (w : World) (hO : OpsAt w) (hK : KeysAt w) (h : ListK 3 (FnP D) S w a p) (hl : p.length ≤ 100) :
    Calls Tryd.prog 28 #[.agg #[.slice a p.length c]] w fun e w' => e = .returned (.int .i64 (deepP p)) ∧ Below w.heap.size w w' := by
  obtain ⟨R, hR⟩ : ∃ R, R = deepP p := ⟨_, rfl⟩
  rw [← hR]
  have hba : Below w.heap.size w (w.alloc (.cells #[.slice a p.length c] 34)) := (Below.refl _ _).alloc (Nat.le_refl _) _
  have HB := Lib.hid (And.intro hba (And.intro (h.below (fnP_stays D) hba) (And.intro hl (And.intro (hO.later hba) (hK.later hba)))))
  have hrow := heap_alloc_new w (.cells #[.slice a p.length c] 34)
  have HV := Lib.hid (progValidI_any D S a c p _ HB.out.2.2.2.1 HB.out.2.2.2.2 HB.out.2.1 hl)
  clear hba h hO hK
  go_enter Tryd.func28, Tryd.ntmps28
  go_upto_region 1 with fail
  obtain ⟨pb, hpb⟩ : ∃ b, b = w.heap.size := ⟨_, rfl⟩
  rw [← hpb] at hrow ⊢
  generalize w.alloc (.cells #[.slice a p.length c] 34) = W1 at hrow HB HV ⊢
  have HBW := Lib.hid (show Below w.heap.size w W1 from HB.out.1)
  clear hpb
  have p0 := cell_of_row _ _ 0 _ _ _ hrow
  simp only [List.getElem?_toArray, List.getElem?_cons_zero] at p0
  clear hrow
  cases hv : progB p with
  | false =>
    rw [hv] at HV
    have HF := Lib.hid (show (-1 : Int) = R by rw [hR, deepP, hv]; rfl)
    clear hv hR
    go_wp2_with fail
    refine HV.out.mono ?_
    rintro e w5 ⟨rfl, hb5⟩
    have HB5 := Lib.hid (HBW.out.trans (hb5.mono HBW.out.size))
    clear hb5 p0
    go_wp2
    go_ret
    exact ⟨ret_int HF.out, HB5.out⟩
  | true =>
    rw [hv] at HV
    have HF := Lib.hid (show ((nestP p : Nat) : Int) = R by rw [hR, deepP, hv]; rfl)
    have HALL := Lib.hid (show p.all fnB = true by simp only [progB, formP, Bool.and_eq_true] at hv; exact hv.1.2)
    clear hv hR
    go_wp2_with fail
    refine HV.out.mono ?_
    rintro e w5 ⟨rfl, hb5⟩
    have q0 := cell_later hb5 p0
    have HB5 := Lib.hid (HBW.out.trans (hb5.mono HBW.out.size))
    have HC := Lib.hid (measure_any S a c p w5 (progP_fit HALL.out (HB.out.2.1.below (fnP_stays D) hb5)) HB.out.2.2.1)
    obtain ⟨N, hN⟩ : ∃ n : Int, n = (cntP p : Nat) := ⟨_, rfl⟩
    obtain ⟨M, hM⟩ : ∃ n : Int, n = (nestP p : Nat) := ⟨_, rfl⟩
    rw [← hN, ← hM] at HC
    rw [← hM] at HF
    clear hN hM
    clear hb5 p0
    go_wp2_with fail
    refine HC.out.mono ?_
    rintro e w6 ⟨rfl, hb6⟩
    have HB6 := Lib.hid (HB5.out.trans (hb6.mono HB5.out.size))
    clear hb6 q0
    go_wp2
    go_ret
    exact ⟨ret_int HF.out, HB6.out⟩


end Go.Proofs.YtccfbnhlhjlmgaaDoor

/-
  How many different numbers of a list are below 0, or not: the walks of the reference's l21Kinds (a sorted list without doubles) and of the program's 'different' (a map), and that both count the same.
-/

namespace Go.Proofs.YtccfbnhlhjlmgaaDoor
open Go.RowKit Go.Maps

/-! ### the plain law -/
/-! ### the walks -/
end Go.Proofs.YtccfbnhlhjlmgaaDoor

/-
  The reference draws a short list of small numbers (l21Numbers); wwHas looks a number up in a list; the walk of the law FnColoursUsed.
-/
namespace Go.Proofs.YtccfbnhlhjlmgaaDoor
open Go.RowKit

/-! ### FnColoursUsed -/
theorem bytes_of_row {w : World} {a : Option Addr} {len cap : Nat} {zs : List Int} (h : IsRow .u8 w a len cap zs) : BytesRd w a len (zs.take len) := by
  obtain ⟨h1, h2, h3⟩ := rowAt_of_row h
  refine ⟨h2, h1, fun x hx => ?_⟩
  have := h3 x hx
  simp [Lit.wf, IntKind.min, IntKind.max, IntKind.signed, IntKind.bits] at this
  exact ⟨by omega, by omega⟩
theorem cap_of_row {k : IntKind} {w : World} {a : Option Addr} {len cap : Nat} {zs : List Int} (h : IsRow k w a len cap zs) : len ≤ cap := by
  rcases h with ⟨_, rfl, rfl, _⟩ | ⟨_, _, h, _⟩
  · exact Nat.le_refl _
  · exact h
theorem BytesRd.later {w w' : World} {a : Option Addr} {len : Nat} {bs : List Int} (h : BytesRd w a len bs) (hb : Below w.heap.size w w') : BytesRd w' a len bs := ⟨h.length, h.row.later hb, h.byte⟩

end Go.Proofs.YtccfbnhlhjlmgaaDoor
