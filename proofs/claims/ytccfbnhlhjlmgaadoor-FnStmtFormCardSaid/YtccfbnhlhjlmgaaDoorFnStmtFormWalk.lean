/-
  The walk of the law FnStmtForm, from what l3Bent gives.
-/
import Derived.Test.YtccfbnhlhjlmgaaDoorGc
import Derived.Test.YtccfbnhlhjlmgaaDoorGn
import Derived.Test.YtccfbnhlhjlmgaaDoorGi
import Derived.Test.YtccfbnhlhjlmgaaDoorNumbers

namespace Go.Proofs.YtccfbnhlhjlmgaaDoor
open Go.RowKit
set_option linter.unusedVariables false

/-- The program of one function with one statement. -/
def progS (s : StmtD) : List FnD := [⟨⟨#[109]⟩, [], [s]⟩]
theorem name_m : nameD ⟨#[109]⟩ = true := by
  have h1 : hasE keysE ⟨#[109]⟩ = false := by
    simp only [hasE, keysE, ByteArray.toList_eq, List.any_cons, List.any_nil]
    simp
  rw [nameD, h1]
  rfl
theorem progS_valid (s : StmtD) : progB (progS s) = (stmtB 4 s && decide (cntP (progS s) ≤ 40)) := by
  have hf : formP (progS s) = stmtB 4 s := by
    simp [formP, progS, fnB, name_m]
  rw [progB, hf]
theorem progS_nest (s : StmtD) : nestP (progS s) = nestS 4 s := by simp [nestP, progS, maxN]

set_option maxRecDepth 100000 in
set_option maxHeartbeats 8000000 in
theorem fnStmtForm_walk (hBent : BentC) (a : Option Addr) (len cap : Nat) (zs : List Int) (w : World) (hO : OpsAt w) (hK : KeysAt w) (hrow : IsRow .u8 w a len cap zs) :
    Calls Tryd.prog 5 #[.slice a len cap] w fun e w' => e = .returned (.bool true) ∧ Below w.heap.size w w' := by
  have hin := bytes_of_row hrow
  have hcap := cap_of_row hrow
  clear hrow
  by_cases hbig : 1048576 < len
  · go_enter Tryd.func5, Tryd.ntmps5
    go_wp2
    go_ret
    exact ⟨rfl, Below.refl _ _⟩
  go_enter Tryd.func5, Tryd.ntmps5
  go_wp2_with fail
  refine (drawStmtValid_any hBent w a len cap _ hin hcap).mono ?_
  rintro e w1 ⟨cs, s, rfl, hs, hb1⟩
  obtain ⟨aa, ac, ba, bc, ea, ec, rfl⟩ := stmtP_form hs
  have hba : Below w1.heap.size w1 (w1.alloc (.cells #[.int .i64 s.op, .string s.name, .slice aa s.args.length ac, .slice ba s.body.length bc, .slice ea s.els.length ec] 46)) := (Below.refl _ _).alloc (Nat.le_refl _) _
  have HW := Lib.hid (show Below w.heap.size w (w1.alloc (.cells #[.int .i64 s.op, .string s.name, .slice aa s.args.length ac, .slice ba s.body.length bc, .slice ea s.els.length ec] 46)) ∧ OpsAt (w1.alloc (.cells #[.int .i64 s.op, .string s.name, .slice aa s.args.length ac, .slice ba s.body.length bc, .slice ea s.els.length ec] 46)) ∧ KeysAt (w1.alloc (.cells #[.int .i64 s.op, .string s.name, .slice aa s.args.length ac, .slice ba s.body.length bc, .slice ea s.els.length ec] 46)) ∧ StmtP 20 (fun _ => True) (w1.alloc (.cells #[.int .i64 s.op, .string s.name, .slice aa s.args.length ac, .slice ba s.body.length bc, .slice ea s.els.length ec] 46)) [.int .i64 s.op, .string s.name, .slice aa s.args.length ac, .slice ba s.body.length bc, .slice ea s.els.length ec] s ∧ (w1.alloc (.cells #[.int .i64 s.op, .string s.name, .slice aa s.args.length ac, .slice ba s.body.length bc, .slice ea s.els.length ec] 46)).heap[w1.heap.size]? = some (.cells #[.int .i64 s.op, .string s.name, .slice aa s.args.length ac, .slice ba s.body.length bc, .slice ea s.els.length ec] 46 (0, 0)) from
    ⟨hb1.trans (hba.mono hb1.size), (hO.later hb1).later hba, (hK.later hb1).later hba, (stmtP_stays 20).mono (fun _ _ _ => trivial) ((stmtP_stays 20).below hba hs), heap_alloc_new w1 _⟩)
  clear hO hK hin hcap hbig hs hb1 hba
  go_upto_region 4 with fail
  obtain ⟨tb, htb⟩ : ∃ n, n = w1.heap.size := ⟨_, rfl⟩
  generalize w1.alloc (.cells #[.int .i64 s.op, .string s.name, .slice aa s.args.length ac, .slice ba s.body.length bc, .slice ea s.els.length ec] 46) = w2 at HW ⊢
  rw [← htb] at HW ⊢
  clear htb
  have e0 := cell_of_row _ _ 0 _ _ _ HW.out.2.2.2.2
  have e1 := cell_of_row _ _ 1 _ _ _ HW.out.2.2.2.2
  have e2 := cell_of_row _ _ 2 _ _ _ HW.out.2.2.2.2
  have e3 := cell_of_row _ _ 3 _ _ _ HW.out.2.2.2.2
  have e4 := cell_of_row _ _ 4 _ _ _ HW.out.2.2.2.2
  simp only [List.getElem?_toArray, List.getElem?_cons_zero, List.getElem?_cons_succ] at e0 e1 e2 e3 e4
  go_wp2_with fail
  refine (stmtValidI_any 20 (fun _ => True) _ s w2 HW.out.2.1 HW.out.2.2.1 HW.out.2.2.2.1).mono ?_
  rintro e w3 ⟨rfl, hb3⟩
  have H3 := Lib.hid hb3
  have k0 := cell_later hb3 e0
  have k1 := cell_later hb3 e1
  have k2 := cell_later hb3 e2
  have k3 := cell_later hb3 e3
  have k4 := cell_later hb3 e4
  clear hb3 e0 e1 e2 e3 e4
  go_wp2_with fail
  refine (stmtValidS_any 20 (fun _ => True) _ s w3 ((stmtP_stays 20).below H3.out HW.out.2.2.2.1)).mono ?_
  rintro e w4 ⟨rfl, hb4⟩
  have H4 := Lib.hid (H3.out.trans (hb4.mono H3.out.size))
  have m0 := cell_later hb4 k0
  have m1 := cell_later hb4 k1
  have m2 := cell_later hb4 k2
  have m3 := cell_later hb4 k3
  have m4 := cell_later hb4 k4
  clear hb4 k0 k1 k2 k3 k4 H3
  have hne : (stmtB 4 s != stmtB 4 s) = false := by simp
  go_upto_region 8 with fail
  have H5 := Lib.hid (show Below w2.heap.size w2 (((w4.alloc (.cells #[.int .i64 s.op, .string s.name, .slice aa s.args.length ac, .slice ba s.body.length bc, .slice ea s.els.length ec] 46)).alloc (.cells #[.string ⟨#[109]⟩, .slice none 0 0, .slice (some ⟨w4.heap.size, 0, none⟩) 1 1] 41)).alloc (.cells #[.slice (some ⟨w4.heap.size + 1, 0, none⟩) 1 1] 34)) ∧ ListK 3 (FnP 20) (fun _ => True) (((w4.alloc (.cells #[.int .i64 s.op, .string s.name, .slice aa s.args.length ac, .slice ba s.body.length bc, .slice ea s.els.length ec] 46)).alloc (.cells #[.string ⟨#[109]⟩, .slice none 0 0, .slice (some ⟨w4.heap.size, 0, none⟩) 1 1] 41)).alloc (.cells #[.slice (some ⟨w4.heap.size + 1, 0, none⟩) 1 1] 34)) (some ⟨w4.heap.size + 1, 0, none⟩) (progS s) ∧ (((w4.alloc (.cells #[.int .i64 s.op, .string s.name, .slice aa s.args.length ac, .slice ba s.body.length bc, .slice ea s.els.length ec] 46)).alloc (.cells #[.string ⟨#[109]⟩, .slice none 0 0, .slice (some ⟨w4.heap.size, 0, none⟩) 1 1] 41)).alloc (.cells #[.slice (some ⟨w4.heap.size + 1, 0, none⟩) 1 1] 34)).cell? ⟨w4.heap.size + 1 + 1, 0, none⟩ = some (.slice (some ⟨w4.heap.size + 1, 0, none⟩) 1 1) from by
    have hba : ∀ (w : World) (o : Obj), Below w.heap.size w (w.alloc o) := fun w o => (Below.refl _ _).alloc (Nat.le_refl _) _
    have hs := (stmtP_stays 20).below H4.out HW.out.2.2.2.1
    have h1 : ListK 5 (StmtP 20) (fun _ => True) (w4.alloc (.cells #[.int .i64 s.op, .string s.name, .slice aa s.args.length ac, .slice ba s.body.length bc, .slice ea s.els.length ec] 46)) (some ⟨w4.heap.size, 0, none⟩) [s] := ListK.one (stmtP_stays 20) (c := [.int .i64 s.op, .string s.name, .slice aa s.args.length ac, .slice ba s.body.length bc, .slice ea s.els.length ec]) (heap_alloc_new w4 _) trivial ((stmtP_stays 20).below (hba _ _) hs)
    have h2 := heap_alloc_new (w4.alloc (.cells #[.int .i64 s.op, .string s.name, .slice aa s.args.length ac, .slice ba s.body.length bc, .slice ea s.els.length ec] 46)) (.cells #[.string ⟨#[109]⟩, .slice none 0 0, .slice (some ⟨w4.heap.size, 0, none⟩) 1 1] 41)
    have h3 := heap_alloc_new ((w4.alloc (.cells #[.int .i64 s.op, .string s.name, .slice aa s.args.length ac, .slice ba s.body.length bc, .slice ea s.els.length ec] 46)).alloc (.cells #[.string ⟨#[109]⟩, .slice none 0 0, .slice (some ⟨w4.heap.size, 0, none⟩) 1 1] 41)) (.cells #[.slice (some ⟨w4.heap.size + 1, 0, none⟩) 1 1] 34)
    rw [World.size_alloc] at h2
    rw [World.size_alloc, World.size_alloc] at h3
    have h4 : ListK 3 (FnP 20) (fun _ => True) ((w4.alloc (.cells #[.int .i64 s.op, .string s.name, .slice aa s.args.length ac, .slice ba s.body.length bc, .slice ea s.els.length ec] 46)).alloc (.cells #[.string ⟨#[109]⟩, .slice none 0 0, .slice (some ⟨w4.heap.size, 0, none⟩) 1 1] 41)) (some ⟨w4.heap.size + 1, 0, none⟩) (progS s) := ListK.one (fnP_stays 20) (c := [.string ⟨#[109]⟩, .slice none 0 0, .slice (some ⟨w4.heap.size, 0, none⟩) 1 1]) h2 trivial
      ⟨none, 0, some ⟨w4.heap.size, 0, none⟩, 1, rfl, ⟨(by decide : (1 : Nat) ≤ maxLen), (by decide : (0 : Nat) ≤ 100), (by decide : (1 : Nat) ≤ 100)⟩, ListK.nil _ _ _, h1.below (stmtP_stays 20) (hba _ _)⟩
    refine ⟨?_, h4.below (fnP_stays 20) (hba _ _), cell_of_row _ _ 0 _ _ _ h3⟩
    exact ((H4.out.trans ((hba w4 (.cells #[.int .i64 s.op, .string s.name, .slice aa s.args.length ac, .slice ba s.body.length bc, .slice ea s.els.length ec] 46)).mono H4.out.size)).trans ((hba _ (.cells #[.string ⟨#[109]⟩, .slice none 0 0, .slice (some ⟨w4.heap.size, 0, none⟩) 1 1] 41)).mono (by have := H4.out.size; simp; omega))).trans ((hba _ (.cells #[.slice (some ⟨w4.heap.size + 1, 0, none⟩) 1 1] 34)).mono (by have := H4.out.size; simp; omega)))
  clear m0 m1 m2 m3 m4
  obtain ⟨fb, hfb⟩ : ∃ n, n = w4.heap.size + 1 := ⟨_, rfl⟩
  obtain ⟨pb, hpb⟩ : ∃ n, n = w4.heap.size + 1 + 1 := ⟨_, rfl⟩
  generalize (((w4.alloc (.cells #[.int .i64 s.op, .string s.name, .slice aa s.args.length ac, .slice ba s.body.length bc, .slice ea s.els.length ec] 46)).alloc (.cells #[.string ⟨#[109]⟩, .slice none 0 0, .slice (some ⟨w4.heap.size, 0, none⟩) 1 1] 41)).alloc (.cells #[.slice (some ⟨w4.heap.size + 1, 0, none⟩) 1 1] 34)) = w5 at H5 ⊢
  rw [← hpb, ← hfb] at H5 ⊢
  clear hpb hfb
  have hk5 := H5.out.2.2
  go_wp2_with fail
  refine (stmtCountI_any 20 (fun _ => True) (some ⟨fb, 0, none⟩) 1 (progS s) w5 (HW.out.2.1.later H5.out.1) (HW.out.2.2.1.later H5.out.1) H5.out.2.1 (by decide : (1 : Nat) ≤ 100)).mono ?_
  rintro e w6 ⟨rfl, hb6⟩
  have H6 := Lib.hid (And.intro hb6 (H5.out.1.trans (hb6.mono H5.out.1.size)))
  obtain ⟨hrow6, e0, e1, e2, e3, e4⟩ : w6.heap[tb]? = some (.cells #[.int .i64 s.op, .string s.name, .slice aa s.args.length ac, .slice ba s.body.length bc, .slice ea s.els.length ec] 46 (0, 0)) ∧ w6.cell? ⟨tb, 0, none⟩ = some (.int .i64 s.op) ∧ w6.cell? ⟨tb, 1, none⟩ = some (.string s.name) ∧ w6.cell? ⟨tb, 2, none⟩ = some (.slice aa s.args.length ac) ∧ w6.cell? ⟨tb, 3, none⟩ = some (.slice ba s.body.length bc) ∧ w6.cell? ⟨tb, 4, none⟩ = some (.slice ea s.els.length ec) := by
    have hr := (H6.out.2.block tb (Array.getElem?_eq_some_iff.1 HW.out.2.2.2.2).1).trans HW.out.2.2.2.2
    exact ⟨hr, cell_of_row _ _ 0 _ _ _ hr, cell_of_row _ _ 1 _ _ _ hr, cell_of_row _ _ 2 _ _ _ hr, cell_of_row _ _ 3 _ _ _ hr, cell_of_row _ _ 4 _ _ _ hr⟩
  have HR6 := Lib.hid hrow6
  have hbE : Below w6.heap.size w6 (w6.alloc (.cells #[.int .i64 1, .int .i64 0, .string ⟨#[]⟩, .slice none 0 0] 29)) := (Below.refl _ _).alloc (Nat.le_refl _) _
  have hbL : Below w6.heap.size w6 (((w6.alloc (.cells #[.int .i64 1, .int .i64 0, .string ⟨#[]⟩, .slice none 0 0] 29)).alloc (.cells #[.int .i64 s.op, .string s.name, .slice aa s.args.length ac, .slice ba s.body.length bc, .slice ea s.els.length ec] 46)).alloc (.cells #[.int .i64 6, .string ⟨#[]⟩, .slice (some ⟨w6.heap.size, 0, none⟩) 1 1, .slice (some ⟨w6.heap.size + 1, 0, none⟩) 1 1, .slice none 0 0] 46)) := (hbE.trans (((Below.refl _ _).alloc (Nat.le_refl _) (.cells #[.int .i64 s.op, .string s.name, .slice aa s.args.length ac, .slice ba s.body.length bc, .slice ea s.els.length ec] 46)).mono hbE.size)).trans (((Below.refl _ _).alloc (Nat.le_refl _) _).mono (by simp; omega))
  have p0 := cell_later hbE e0
  have p1 := cell_later hbE e1
  have p2 := cell_later hbE e2
  have p3 := cell_later hbE e3
  have p4 := cell_later hbE e4
  have r0 := cell_later hbL e0
  have r1 := cell_later hbL e1
  have r2 := cell_later hbL e2
  have r3 := cell_later hbL e3
  have r4 := cell_later hbL e4
  have HBL := Lib.hid (And.intro hbE hbL)
  clear hrow6 hk5 hb6 hbE hbL e0 e1 e2 e3 e4
  go_upto_region 11 with fail
  have hrowD := heap_alloc_new (((w6.alloc (.cells #[.int .i64 1, .int .i64 0, .string ⟨#[]⟩, .slice none 0 0] 29)).alloc (.cells #[.int .i64 s.op, .string s.name, .slice aa s.args.length ac, .slice ba s.body.length bc, .slice ea s.els.length ec] 46)).alloc (.cells #[.int .i64 6, .string ⟨#[]⟩, .slice (some ⟨w6.heap.size, 0, none⟩) 1 1, .slice (some ⟨w6.heap.size + 1, 0, none⟩) 1 1, .slice none 0 0] 46)) (.cells #[.int .i64 s.op, .string s.name, .slice aa s.args.length ac, .slice ba s.body.length bc, .slice ea s.els.length ec] 46)
  rw [World.size_alloc, World.size_alloc, World.size_alloc] at hrowD
  have HD := Lib.hid hrowD
  have yd := frozen_of_row _ _ 2 _ _ hrowD
  have cd := cell_of_row _ _ 2 _ _ _ hrowD
  simp only [List.getElem?_toArray, List.getElem?_cons_zero, List.getElem?_cons_succ] at cd
  clear hrowD p0 p1 p2 p3 p4 r0 r1 r2 r3 r4
  have H7 := Lib.hid (show Below w2.heap.size w2 ((((w6.alloc (.cells #[.int .i64 1, .int .i64 0, .string ⟨#[]⟩, .slice none 0 0] 29)).alloc (.cells #[.int .i64 s.op, .string s.name, .slice aa s.args.length ac, .slice ba s.body.length bc, .slice ea s.els.length ec] 46)).alloc (.cells #[.int .i64 6, .string ⟨#[]⟩, .slice (some ⟨w6.heap.size, 0, none⟩) 1 1, .slice (some ⟨w6.heap.size + 1, 0, none⟩) 1 1, .slice none 0 0] 46)).alloc (.cells #[.int .i64 s.op, .string s.name, .slice none 0 0, .slice ba s.body.length bc, .slice ea s.els.length ec] 46)) ∧
      ((((w6.alloc (.cells #[.int .i64 1, .int .i64 0, .string ⟨#[]⟩, .slice none 0 0] 29)).alloc (.cells #[.int .i64 s.op, .string s.name, .slice aa s.args.length ac, .slice ba s.body.length bc, .slice ea s.els.length ec] 46)).alloc (.cells #[.int .i64 6, .string ⟨#[]⟩, .slice (some ⟨w6.heap.size, 0, none⟩) 1 1, .slice (some ⟨w6.heap.size + 1, 0, none⟩) 1 1, .slice none 0 0] 46)).alloc (.cells #[.int .i64 s.op, .string s.name, .slice none 0 0, .slice ba s.body.length bc, .slice ea s.els.length ec] 46)).heap[w6.heap.size + 1 + 1]? = some (.cells #[.int .i64 6, .string ⟨#[]⟩, .slice (some ⟨w6.heap.size, 0, none⟩) 1 1, .slice (some ⟨w6.heap.size + 1, 0, none⟩) 1 1, .slice none 0 0] 46 (0, 0)) ∧
      ((((w6.alloc (.cells #[.int .i64 1, .int .i64 0, .string ⟨#[]⟩, .slice none 0 0] 29)).alloc (.cells #[.int .i64 s.op, .string s.name, .slice aa s.args.length ac, .slice ba s.body.length bc, .slice ea s.els.length ec] 46)).alloc (.cells #[.int .i64 6, .string ⟨#[]⟩, .slice (some ⟨w6.heap.size, 0, none⟩) 1 1, .slice (some ⟨w6.heap.size + 1, 0, none⟩) 1 1, .slice none 0 0] 46)).alloc (.cells #[.int .i64 s.op, .string s.name, .slice none 0 0, .slice ba s.body.length bc, .slice ea s.els.length ec] 46)).heap[w6.heap.size + 1 + 1 + 1]? = some (.cells #[.int .i64 s.op, .string s.name, .slice none 0 0, .slice ba s.body.length bc, .slice ea s.els.length ec] 46 (0, 0)) ∧
      StmtP 21 (fun _ => True) ((((w6.alloc (.cells #[.int .i64 1, .int .i64 0, .string ⟨#[]⟩, .slice none 0 0] 29)).alloc (.cells #[.int .i64 s.op, .string s.name, .slice aa s.args.length ac, .slice ba s.body.length bc, .slice ea s.els.length ec] 46)).alloc (.cells #[.int .i64 6, .string ⟨#[]⟩, .slice (some ⟨w6.heap.size, 0, none⟩) 1 1, .slice (some ⟨w6.heap.size + 1, 0, none⟩) 1 1, .slice none 0 0] 46)).alloc (.cells #[.int .i64 s.op, .string s.name, .slice none 0 0, .slice ba s.body.length bc, .slice ea s.els.length ec] 46)) [.int .i64 6, .string ⟨#[]⟩, .slice (some ⟨w6.heap.size, 0, none⟩) 1 1, .slice (some ⟨w6.heap.size + 1, 0, none⟩) 1 1, .slice none 0 0] (loopOf s) ∧
      StmtP 20 (fun _ => True) ((((w6.alloc (.cells #[.int .i64 1, .int .i64 0, .string ⟨#[]⟩, .slice none 0 0] 29)).alloc (.cells #[.int .i64 s.op, .string s.name, .slice aa s.args.length ac, .slice ba s.body.length bc, .slice ea s.els.length ec] 46)).alloc (.cells #[.int .i64 6, .string ⟨#[]⟩, .slice (some ⟨w6.heap.size, 0, none⟩) 1 1, .slice (some ⟨w6.heap.size + 1, 0, none⟩) 1 1, .slice none 0 0] 46)).alloc (.cells #[.int .i64 s.op, .string s.name, .slice none 0 0, .slice ba s.body.length bc, .slice ea s.els.length ec] 46)) [.int .i64 s.op, .string s.name, .slice none 0 0, .slice ba s.body.length bc, .slice ea s.els.length ec] (.mk s.op s.name [] s.body s.els) ∧
      ((((w6.alloc (.cells #[.int .i64 1, .int .i64 0, .string ⟨#[]⟩, .slice none 0 0] 29)).alloc (.cells #[.int .i64 s.op, .string s.name, .slice aa s.args.length ac, .slice ba s.body.length bc, .slice ea s.els.length ec] 46)).alloc (.cells #[.int .i64 6, .string ⟨#[]⟩, .slice (some ⟨w6.heap.size, 0, none⟩) 1 1, .slice (some ⟨w6.heap.size + 1, 0, none⟩) 1 1, .slice none 0 0] 46)).alloc (.cells #[.int .i64 s.op, .string s.name, .slice none 0 0, .slice ba s.body.length bc, .slice ea s.els.length ec] 46)).cell? ⟨pb, 0, none⟩ = some (.slice (some ⟨fb, 0, none⟩) 1 1) ∧
      ListK 3 (FnP 20) (fun _ => True) ((((w6.alloc (.cells #[.int .i64 1, .int .i64 0, .string ⟨#[]⟩, .slice none 0 0] 29)).alloc (.cells #[.int .i64 s.op, .string s.name, .slice aa s.args.length ac, .slice ba s.body.length bc, .slice ea s.els.length ec] 46)).alloc (.cells #[.int .i64 6, .string ⟨#[]⟩, .slice (some ⟨w6.heap.size, 0, none⟩) 1 1, .slice (some ⟨w6.heap.size + 1, 0, none⟩) 1 1, .slice none 0 0] 46)).alloc (.cells #[.int .i64 s.op, .string s.name, .slice none 0 0, .slice ba s.body.length bc, .slice ea s.els.length ec] 46)) (some ⟨fb, 0, none⟩) (progS s) from by
    have hba : ∀ (w : World) (o : Obj), Below w.heap.size w (w.alloc o) := fun w o => (Below.refl _ _).alloc (Nat.le_refl _) _
    have hbD := HBL.out.2.trans ((hba _ (.cells #[.int .i64 s.op, .string s.name, .slice none 0 0, .slice ba s.body.length bc, .slice ea s.els.length ec] 46)).mono HBL.out.2.size)
    have hb67 : Below w6.heap.size w6 ((((w6.alloc (.cells #[.int .i64 1, .int .i64 0, .string ⟨#[]⟩, .slice none 0 0] 29)).alloc (.cells #[.int .i64 s.op, .string s.name, .slice aa s.args.length ac, .slice ba s.body.length bc, .slice ea s.els.length ec] 46)).alloc (.cells #[.int .i64 6, .string ⟨#[]⟩, .slice (some ⟨w6.heap.size, 0, none⟩) 1 1, .slice (some ⟨w6.heap.size + 1, 0, none⟩) 1 1, .slice none 0 0] 46)).alloc (.cells #[.int .i64 s.op, .string s.name, .slice none 0 0, .slice ba s.body.length bc, .slice ea s.els.length ec] 46)) := hbD
    have hbL7 : Below (((w6.alloc (.cells #[.int .i64 1, .int .i64 0, .string ⟨#[]⟩, .slice none 0 0] 29)).alloc (.cells #[.int .i64 s.op, .string s.name, .slice aa s.args.length ac, .slice ba s.body.length bc, .slice ea s.els.length ec] 46)).alloc (.cells #[.int .i64 6, .string ⟨#[]⟩, .slice (some ⟨w6.heap.size, 0, none⟩) 1 1, .slice (some ⟨w6.heap.size + 1, 0, none⟩) 1 1, .slice none 0 0] 46)).heap.size (((w6.alloc (.cells #[.int .i64 1, .int .i64 0, .string ⟨#[]⟩, .slice none 0 0] 29)).alloc (.cells #[.int .i64 s.op, .string s.name, .slice aa s.args.length ac, .slice ba s.body.length bc, .slice ea s.els.length ec] 46)).alloc (.cells #[.int .i64 6, .string ⟨#[]⟩, .slice (some ⟨w6.heap.size, 0, none⟩) 1 1, .slice (some ⟨w6.heap.size + 1, 0, none⟩) 1 1, .slice none 0 0] 46)) ((((w6.alloc (.cells #[.int .i64 1, .int .i64 0, .string ⟨#[]⟩, .slice none 0 0] 29)).alloc (.cells #[.int .i64 s.op, .string s.name, .slice aa s.args.length ac, .slice ba s.body.length bc, .slice ea s.els.length ec] 46)).alloc (.cells #[.int .i64 6, .string ⟨#[]⟩, .slice (some ⟨w6.heap.size, 0, none⟩) 1 1, .slice (some ⟨w6.heap.size + 1, 0, none⟩) 1 1, .slice none 0 0] 46)).alloc (.cells #[.int .i64 s.op, .string s.name, .slice none 0 0, .slice ba s.body.length bc, .slice ea s.els.length ec] 46)) := hba _ (.cells #[.int .i64 s.op, .string s.name, .slice none 0 0, .slice ba s.body.length bc, .slice ea s.els.length ec] 46)
    have hrL := heap_alloc_new ((w6.alloc (.cells #[.int .i64 1, .int .i64 0, .string ⟨#[]⟩, .slice none 0 0] 29)).alloc (.cells #[.int .i64 s.op, .string s.name, .slice aa s.args.length ac, .slice ba s.body.length bc, .slice ea s.els.length ec] 46)) (.cells #[.int .i64 6, .string ⟨#[]⟩, .slice (some ⟨w6.heap.size, 0, none⟩) 1 1, .slice (some ⟨w6.heap.size + 1, 0, none⟩) 1 1, .slice none 0 0] 46)
    have hrN := heap_alloc_new (w6.alloc (.cells #[.int .i64 1, .int .i64 0, .string ⟨#[]⟩, .slice none 0 0] 29)) (.cells #[.int .i64 s.op, .string s.name, .slice aa s.args.length ac, .slice ba s.body.length bc, .slice ea s.els.length ec] 46)
    rw [World.size_alloc, World.size_alloc] at hrL
    rw [World.size_alloc] at hrN
    have hs6 : StmtP 20 (fun _ => True) w6 [.int .i64 s.op, .string s.name, .slice aa s.args.length ac, .slice ba s.body.length bc, .slice ea s.els.length ec] s := (stmtP_stays 20).below H6.out.2 HW.out.2.2.2.1
    refine ⟨H6.out.2.trans (hb67.mono H6.out.2.size), ?_, ?_, ?_, ?_, ?_, ?_⟩
    · exact (hbL7.block _ (by simp)).trans hrL
    · have hrD := heap_alloc_new (((w6.alloc (.cells #[.int .i64 1, .int .i64 0, .string ⟨#[]⟩, .slice none 0 0] 29)).alloc (.cells #[.int .i64 s.op, .string s.name, .slice aa s.args.length ac, .slice ba s.body.length bc, .slice ea s.els.length ec] 46)).alloc (.cells #[.int .i64 6, .string ⟨#[]⟩, .slice (some ⟨w6.heap.size, 0, none⟩) 1 1, .slice (some ⟨w6.heap.size + 1, 0, none⟩) 1 1, .slice none 0 0] 46)) (.cells #[.int .i64 s.op, .string s.name, .slice none 0 0, .slice ba s.body.length bc, .slice ea s.els.length ec] 46)
      rw [World.size_alloc, World.size_alloc, World.size_alloc] at hrD
      exact hrD
    · have hk := (arg_laid (S := fun _ => False) (w := w6) (leafK 1 0 (by decide) 11))
      have hn : ListK 5 (StmtP 20) (fun _ => True) ((w6.alloc (.cells #[.int .i64 1, .int .i64 0, .string ⟨#[]⟩, .slice none 0 0] 29)).alloc (.cells #[.int .i64 s.op, .string s.name, .slice aa s.args.length ac, .slice ba s.body.length bc, .slice ea s.els.length ec] 46)) (some ⟨w6.heap.size + 1, 0, none⟩) [s] := ListK.one (stmtP_stays 20) (c := [.int .i64 s.op, .string s.name, .slice aa s.args.length ac, .slice ba s.body.length bc, .slice ea s.els.length ec]) hrN trivial ((stmtP_stays 20).below (hba _ _) ((stmtP_stays 20).below HBL.out.1 hs6))
      refine (stmtP_stays 21).below hbL7 ((stmtP_stays 21).below (hba _ _) ?_)
      exact ⟨some ⟨w6.heap.size, 0, none⟩, 1, some ⟨w6.heap.size + 1, 0, none⟩, 1, none, 0, rfl, ⟨Nat.zero_le _, (by decide : (-9223372036854775808 : Int) ≤ 6), (by decide : (6 : Int) ≤ 9223372036854775807), (by decide : (1 : Nat) ≤ 100), (by decide : (1 : Nat) ≤ 100), (by decide : (0 : Nat) ≤ 100)⟩, (hk.below (exprK_stays 12) (hba _ _)).mono (exprK_stays 12) (fun _ _ _ => trivial), hn, ListK.nil _ _ _⟩
    · refine (stmtP_stays 20).below hb67 ?_
      obtain ⟨aa', ac', ba', bc', ea', ec', he, hb, hA, hB, hE⟩ := hs6
      simp only [List.cons.injEq, Value.slice.injEq, and_true, true_and] at he
      obtain ⟨-, ⟨rfl, rfl⟩, rfl, rfl⟩ := he
      exact ⟨none, 0, ba, bc, ea, ec, rfl, ⟨hb.1, hb.2.1, hb.2.2.1, (by decide : (0 : Nat) ≤ 100), hb.2.2.2.2.1, hb.2.2.2.2.2⟩, ListK.nil _ _ _, hB, hE⟩
    · exact cell_later hb67 (cell_later H6.out.1 H5.out.2.2)
    · exact (H5.out.2.1.below (fnP_stays 20) H6.out.1).below (fnP_stays 20) hb67)
  go_upto_region 12 with fail
  clear yd cd
  obtain ⟨eb, heb⟩ : ∃ n, n = w6.heap.size := ⟨_, rfl⟩
  obtain ⟨nb, hnb⟩ : ∃ n, n = w6.heap.size + 1 := ⟨_, rfl⟩
  obtain ⟨lb, hlb⟩ : ∃ n, n = w6.heap.size + 1 + 1 := ⟨_, rfl⟩
  obtain ⟨db, hdb⟩ : ∃ n, n = w6.heap.size + 1 + 1 + 1 := ⟨_, rfl⟩
  generalize ((((w6.alloc (.cells #[.int .i64 1, .int .i64 0, .string ⟨#[]⟩, .slice none 0 0] 29)).alloc (.cells #[.int .i64 s.op, .string s.name, .slice aa s.args.length ac, .slice ba s.body.length bc, .slice ea s.els.length ec] 46)).alloc (.cells #[.int .i64 6, .string ⟨#[]⟩, .slice (some ⟨w6.heap.size, 0, none⟩) 1 1, .slice (some ⟨w6.heap.size + 1, 0, none⟩) 1 1, .slice none 0 0] 46)).alloc (.cells #[.int .i64 s.op, .string s.name, .slice none 0 0, .slice ba s.body.length bc, .slice ea s.els.length ec] 46)) = w7 at H7 ⊢
  rw [← hdb, ← hlb, ← hnb, ← heb] at H7 ⊢
  clear hdb hlb hnb heb HBL HD HR6
  have HLV := Lib.hid (show ∀ W, Below w7.heap.size w7 W → Calls Tryd.prog 25 #[.agg #[.int .i64 6, .string ⟨#[]⟩, .slice (some ⟨eb, 0, none⟩) 1 1, .slice (some ⟨nb, 0, none⟩) 1 1, .slice none 0 0]] W fun e w' => e = .returned (.bool (stmtB 4 (loopOf s))) ∧ Hid (Below w7.heap.size w7 w') from fun W hW =>
    (stmtValidI_any 21 (fun _ => True) _ (loopOf s) W ((HW.out.2.1.later H7.out.1).later hW) ((HW.out.2.2.1.later H7.out.1).later hW) ((stmtP_stays 21).below hW H7.out.2.2.2.1)).mono fun e w' h => ⟨h.1, Lib.hid (hW.trans (h.2.mono hW.size))⟩)
  have HBV := Lib.hid (show ∀ W, Below w7.heap.size w7 W → Calls Tryd.prog 25 #[.agg #[.int .i64 s.op, .string s.name, .slice none 0 0, .slice ba s.body.length bc, .slice ea s.els.length ec]] W fun e w' => e = .returned (.bool false) ∧ Hid (Below w7.heap.size w7 w') from fun W hW => by
    have h := stmtValidI_any 20 (fun _ => True) _ (.mk s.op s.name [] s.body s.els) W ((HW.out.2.1.later H7.out.1).later hW) ((HW.out.2.2.1.later H7.out.1).later hW) ((stmtP_stays 20).below hW H7.out.2.2.2.2.1)
    rw [form_bare] at h
    exact h.mono fun e w' h => ⟨h.1, Lib.hid (hW.trans (h.2.mono hW.size))⟩)
  have HPV := Lib.hid (show ∀ W, Below w7.heap.size w7 W → Calls Tryd.prog 21 #[.agg #[.slice (some ⟨fb, 0, none⟩) 1 1]] W fun e w' => e = .returned (.bool (progB (progS s))) ∧ Hid (Below w7.heap.size w7 w') from fun W hW =>
    (progValidI_any 20 (fun _ => True) (some ⟨fb, 0, none⟩) 1 (progS s) W ((HW.out.2.1.later H7.out.1).later hW) ((HW.out.2.2.1.later H7.out.1).later hW) (H7.out.2.2.2.2.2.2.below (fnP_stays 20) hW) (by decide : (1 : Nat) ≤ 100)).mono fun e w' h => ⟨h.1, Lib.hid (hW.trans (h.2.mono hW.size))⟩)
  have HNV := Lib.hid (show ∀ W, Below w7.heap.size w7 W → Calls Tryd.prog 28 #[.agg #[.slice (some ⟨fb, 0, none⟩) 1 1]] W fun e w' => e = .returned (.int .i64 (deepP (progS s))) ∧ Hid (Below w7.heap.size w7 w') from fun W hW =>
    (nestOfI_any 20 (fun _ => True) (some ⟨fb, 0, none⟩) 1 (progS s) W ((HW.out.2.1.later H7.out.1).later hW) ((HW.out.2.2.1.later H7.out.1).later hW) (H7.out.2.2.2.2.2.2.below (fnP_stays 20) hW) (by decide : (1 : Nat) ≤ 100)).mono fun e w' h => ⟨h.1, Lib.hid (hW.trans (h.2.mono hW.size))⟩)
  have HKP := Lib.hid (show ∀ W, Below w7.heap.size w7 W → (W.cell? ⟨pb, 0, none⟩ = some (.slice (some ⟨fb, 0, none⟩) 1 1) ∧ (W.cell? ⟨lb, 0, none⟩ = some (.int .i64 6) ∧ W.cell? ⟨lb, 1, none⟩ = some (.string ⟨#[]⟩) ∧ W.cell? ⟨lb, 2, none⟩ = some (.slice (some ⟨eb, 0, none⟩) 1 1) ∧ W.cell? ⟨lb, 3, none⟩ = some (.slice (some ⟨nb, 0, none⟩) 1 1) ∧ W.cell? ⟨lb, 4, none⟩ = some (.slice none 0 0)) ∧ (W.cell? ⟨db, 0, none⟩ = some (.int .i64 s.op) ∧ W.cell? ⟨db, 1, none⟩ = some (.string s.name) ∧ W.cell? ⟨db, 2, none⟩ = some (.slice none 0 0) ∧ W.cell? ⟨db, 3, none⟩ = some (.slice ba s.body.length bc) ∧ W.cell? ⟨db, 4, none⟩ = some (.slice ea s.els.length ec))) from fun W hW => by
    have hl := (hW.block lb (Array.getElem?_eq_some_iff.1 H7.out.2.1).1).trans H7.out.2.1
    have hd := (hW.block db (Array.getElem?_eq_some_iff.1 H7.out.2.2.1).1).trans H7.out.2.2.1
    exact ⟨cell_later hW H7.out.2.2.2.2.2.1, ⟨cell_of_row _ _ 0 _ _ _ hl, cell_of_row _ _ 1 _ _ _ hl, cell_of_row _ _ 2 _ _ _ hl, cell_of_row _ _ 3 _ _ _ hl, cell_of_row _ _ 4 _ _ _ hl⟩, cell_of_row _ _ 0 _ _ _ hd, cell_of_row _ _ 1 _ _ _ hd, cell_of_row _ _ 2 _ _ _ hd, cell_of_row _ _ 3 _ _ _ hd, cell_of_row _ _ 4 _ _ _ hd⟩)
  cases hb : stmtB 4 s with
  | false =>
    have hp : progB (progS s) = false := by rw [progS_valid, hb]; rfl
    have hn1 : countP (progS s) = -1 := by simp [countP, hp]
    have hn2 : (countP (progS s) == -1) = true := by rw [hn1]; rfl
    rw [form_none hb] at HLV
    obtain ⟨-, k, -⟩ := HKP.out w7 (Below.refl _ _)
    obtain ⟨k0, k1, k2, k3, k4⟩ := k
    clear hb hp hn1
    go_wp2_with fail
    refine (HLV.out w7 (Below.refl _ _)).mono ?_
    rintro e w8 ⟨rfl, hB8⟩
    go_wp2
    go_ret
    exact ⟨rfl, HW.out.1.trans ((H7.out.1.trans (hB8.out.mono H7.out.1.size)).mono HW.out.1.size)⟩
  | true =>
    go_upto_region 14 with fail
    have HFL := Lib.hid (form_law hb)
    clear hb
    cases hp : progB (progS s) with
    | true =>
      have hn1 : countP (progS s) = ((cntP (progS s) : Nat) : Int) := by simp [countP, hp]
      have hd1 : deepP (progS s) = ((nestS 4 s : Nat) : Int) := by simp [deepP, hp, progS_nest]
      have hge : decide ((0 : Int) ≤ ((cntP (progS s) : Nat) : Int)) = true := decide_eq_true (by omega)
      have hlt : decide (((cntP (progS s) : Nat) : Int) < 0) = false := decide_eq_false (by omega)
      rw [hp] at HPV
      rw [hn1]
      rw [hd1] at HNV
      rw [HFL.out] at HLV
      obtain ⟨q, hq⟩ : ∃ q, q = decide (nestS 4 s < 4) := ⟨_, rfl⟩
      have hqi : decide (((nestS 4 s : Nat) : Int) < 4) = q := by rw [hq]; exact decide_eq_decide.2 (by omega)
      rw [← hq] at HLV
      generalize ((nestS 4 s : Nat) : Int) = nst at HNV hqi
      generalize ((cntP (progS s) : Nat) : Int) = cn at hge hlt ⊢
      have hqq : (q == q) = true := by simp
      have HCL := Lib.hid hq
      clear hp hn1 hd1 hq
      refine wp_region_held_drew (S := (fun W => W.cell? ⟨pb, 0, none⟩ = some (.slice (some ⟨fb, 0, none⟩) 1 1) ∧ (W.cell? ⟨lb, 0, none⟩ = some (.int .i64 6) ∧ W.cell? ⟨lb, 1, none⟩ = some (.string ⟨#[]⟩) ∧ W.cell? ⟨lb, 2, none⟩ = some (.slice (some ⟨eb, 0, none⟩) 1 1) ∧ W.cell? ⟨lb, 3, none⟩ = some (.slice (some ⟨nb, 0, none⟩) 1 1) ∧ W.cell? ⟨lb, 4, none⟩ = some (.slice none 0 0)) ∧ (W.cell? ⟨db, 0, none⟩ = some (.int .i64 s.op) ∧ W.cell? ⟨db, 1, none⟩ = some (.string s.name) ∧ W.cell? ⟨db, 2, none⟩ = some (.slice none 0 0) ∧ W.cell? ⟨db, 3, none⟩ = some (.slice ba s.body.length bc) ∧ W.cell? ⟨db, 4, none⟩ = some (.slice ea s.els.length ec)))) (by kernel_rfl) (HKP.out _ ((Below.refl w7.heap.size w7).drew)) (fun hHeld => ?_)
      refine wpAnyH_take (i := 0) (oi := ⟨some 43, _, _, _, _, _⟩) (v := ?_) rfl (by kernel_rfl) (by kernel_rfl) (by kernel_rfl) (fun _ _ _ h => h) (Or.inl ⟨by rfl, ?_⟩) (by assumption) ?_
      rotate_left
      · (intro w hSw; (try dsimp only at hSw); go_simp; all_goals (try with_reducible rfl))
      (try simp only [Act.put, List.setIfInBounds_toArray, List.set_cons_zero, List.set_cons_succ])
      refine wpAnyH_take (i := 2) (oi := ⟨some 45, _, _, _, _, _⟩) (v := ?_) rfl (by kernel_rfl) (by kernel_rfl) (by kernel_rfl) (fun _ _ _ h => h) (Or.inl ⟨by rfl, ?_⟩) (by assumption) ?_
      rotate_left
      · (intro w hSw; (try dsimp only at hSw); go_simp; all_goals (try with_reducible rfl))
      (try simp only [Act.put, List.setIfInBounds_toArray, List.set_cons_zero, List.set_cons_succ])
      refine wpAnyH_take (i := 3) (oi := ⟨some 46, _, _, _, _, _⟩) (v := ?_) rfl (by kernel_rfl) (by kernel_rfl) (by kernel_rfl) (fun _ _ _ h => h) (Or.inl ⟨by rfl, ?_⟩) (by assumption) ?_
      rotate_left
      · (intro w hSw; (try dsimp only at hSw); go_simp; all_goals (try with_reducible rfl))
      (try simp only [Act.put, List.setIfInBounds_toArray, List.set_cons_zero, List.set_cons_succ])
      refine wpAnyH_ready (rs := [1]) (by kernel_rfl) (by simp) ?_
      refine AllReadyH.cons (o := ⟨some 44, _, _, _, _, _⟩) rfl (fun K hK => ?_) AllReadyH.nil
      go_simp
      go_at_call 21
      refine (HPV.out _ ((Below.refl w7.heap.size w7).drew)).mono ?_
      rintro e x1 ⟨rfl, hBx1⟩
      refine hK.out _ _ (HKP.out _ hBx1.out) (fun hHeld2 => ?_)
      clear hK K hHeld
      have hHeld := hHeld2
      clear hHeld2
      (try simp only [Act.put, List.setIfInBounds_toArray, List.set_cons_zero, List.set_cons_succ])
      refine wpAnyH_take (i := 4) (oi := ⟨some 47, _, _, _, _, _⟩) (v := ?_) rfl (by kernel_rfl) (by kernel_rfl) (by kernel_rfl) (fun _ _ _ h => h) (Or.inl ⟨by rfl, ?_⟩) (by assumption) ?_
      rotate_left
      · (intro w hSw; (try dsimp only at hSw); go_simp; all_goals (try with_reducible rfl))
      (try simp only [Act.put, List.setIfInBounds_toArray, List.set_cons_zero, List.set_cons_succ])
      refine wpAnyH_take (i := 5) (oi := ⟨some 48, _, _, _, _, _⟩) (v := ?_) rfl (by kernel_rfl) (by kernel_rfl) (by kernel_rfl) (fun _ _ _ h => h) (Or.inl ⟨by rfl, ?_⟩) (by assumption) ?_
      rotate_left
      · (intro w hSw; (try dsimp only at hSw); go_simp; all_goals (try with_reducible rfl))
      (try simp only [Act.put, List.setIfInBounds_toArray, List.set_cons_zero, List.set_cons_succ])
      refine wpAnyH_take (i := 6) (oi := ⟨some 49, _, _, _, _, _⟩) (v := ?_) rfl (by kernel_rfl) (by kernel_rfl) (by kernel_rfl) (fun _ _ _ h => h) (Or.inl ⟨by rfl, ?_⟩) (by assumption) ?_
      rotate_left
      · (intro w hSw; (try dsimp only at hSw); go_simp; all_goals (try with_reducible rfl))
      (try simp only [Act.put, List.setIfInBounds_toArray, List.set_cons_zero, List.set_cons_succ])
      refine wpAnyH_ready (rs := [7]) (by kernel_rfl) (by simp) ?_
      refine AllReadyH.cons (o := ⟨some 50, _, _, _, _, _⟩) rfl (fun K hK => ?_) AllReadyH.nil
      go_simp
      go_at_call 25
      refine (HBV.out _ hBx1.out).mono ?_
      rintro e x2 ⟨rfl, hBx2⟩
      refine hK.out _ _ (HKP.out _ hBx2.out) (fun hHeld2 => ?_)
      clear hK K hHeld
      have hHeld := hHeld2
      clear hHeld2
      (try simp only [Act.put, List.setIfInBounds_toArray, List.set_cons_zero, List.set_cons_succ])
      refine wpAnyH_take (i := 8) (oi := ⟨some 51, _, _, _, _, _⟩) (v := ?_) rfl (by kernel_rfl) (by kernel_rfl) (by kernel_rfl) (fun _ _ _ h => h) (Or.inl ⟨by rfl, ?_⟩) (by assumption) ?_
      rotate_left
      · (intro w hSw; (try dsimp only at hSw); go_simp; all_goals (try with_reducible rfl))
      (try simp only [Act.put, List.setIfInBounds_toArray, List.set_cons_zero, List.set_cons_succ])
      refine wpAnyH_take (i := 9) (oi := ⟨some 52, _, _, _, _, _⟩) (v := ?_) rfl (by kernel_rfl) (by kernel_rfl) (by kernel_rfl) (fun _ _ _ h => h) (Or.inl ⟨by rfl, ?_⟩) (by assumption) ?_
      rotate_left
      · (intro w hSw; (try dsimp only at hSw); go_simp; all_goals (try with_reducible rfl))
      (try simp only [Act.put, List.setIfInBounds_toArray, List.set_cons_zero, List.set_cons_succ])
      refine wpAnyH_take (i := 10) (oi := ⟨some 53, _, _, _, _, _⟩) (v := ?_) rfl (by kernel_rfl) (by kernel_rfl) (by kernel_rfl) (fun _ _ _ h => h) (Or.inl ⟨by rfl, ?_⟩) (by assumption) ?_
      rotate_left
      · (intro w hSw; (try dsimp only at hSw); go_simp; all_goals (try with_reducible rfl))
      (try simp only [Act.put, List.setIfInBounds_toArray, List.set_cons_zero, List.set_cons_succ])
      refine wpAnyH_take (i := 11) (oi := ⟨some 54, _, _, _, _, _⟩) (v := ?_) rfl (by kernel_rfl) (by kernel_rfl) (by kernel_rfl) (fun _ _ _ h => h) (Or.inl ⟨by rfl, ?_⟩) (by assumption) ?_
      rotate_left
      · (intro w hSw; (try dsimp only at hSw); go_simp; all_goals (try with_reducible rfl))
      (try simp only [Act.put, List.setIfInBounds_toArray, List.set_cons_zero, List.set_cons_succ])
      refine wpAnyH_take (i := 12) (oi := ⟨some 55, _, _, _, _, _⟩) (v := ?_) rfl (by kernel_rfl) (by kernel_rfl) (by kernel_rfl) (fun _ _ _ h => h) (Or.inl ⟨by rfl, ?_⟩) (by assumption) ?_
      rotate_left
      · (intro w hSw; (try dsimp only at hSw); go_simp; all_goals (try with_reducible rfl))
      (try simp only [Act.put, List.setIfInBounds_toArray, List.set_cons_zero, List.set_cons_succ])
      refine wpAnyH_take (i := 13) (oi := ⟨some 56, _, _, _, _, _⟩) (v := ?_) rfl (by kernel_rfl) (by kernel_rfl) (by kernel_rfl) (fun _ _ _ h => h) (Or.inl ⟨by rfl, ?_⟩) (by assumption) ?_
      rotate_left
      · (intro w hSw; (try dsimp only at hSw); go_simp; all_goals (try with_reducible rfl))
      (try simp only [Act.put, List.setIfInBounds_toArray, List.set_cons_zero, List.set_cons_succ])
      refine wpAnyH_take (i := 14) (oi := ⟨some 57, _, _, _, _, _⟩) (v := ?_) rfl (by kernel_rfl) (by kernel_rfl) (by kernel_rfl) (fun _ _ _ h => h) (Or.inl ⟨by rfl, ?_⟩) (by assumption) ?_
      rotate_left
      · (intro w hSw; (try dsimp only at hSw); go_simp; all_goals (try with_reducible rfl))
      (try simp only [Act.put, List.setIfInBounds_toArray, List.set_cons_zero, List.set_cons_succ])
      refine wpAnyH_take (i := 16) (oi := ⟨some 59, _, _, _, _, _⟩) (v := ?_) rfl (by kernel_rfl) (by kernel_rfl) (by kernel_rfl) (fun _ _ _ h => h) (Or.inl ⟨by rfl, ?_⟩) (by assumption) ?_
      rotate_left
      · (intro w hSw; (try dsimp only at hSw); go_simp; all_goals (try with_reducible rfl))
      (try simp only [Act.put, List.setIfInBounds_toArray, List.set_cons_zero, List.set_cons_succ])
      refine wpAnyH_ready (rs := [15]) (by kernel_rfl) (by simp) ?_
      refine AllReadyH.cons (o := ⟨some 58, _, _, _, _, _⟩) rfl (fun K hK => ?_) AllReadyH.nil
      go_simp
      go_at_call 25
      refine (HLV.out _ hBx2.out).mono ?_
      rintro e x3 ⟨rfl, hBx3⟩
      refine hK.out _ _ (HKP.out _ hBx3.out) (fun hHeld2 => ?_)
      clear hK K hHeld
      have hHeld := hHeld2
      clear hHeld2
      (try simp only [Act.put, List.setIfInBounds_toArray, List.set_cons_zero, List.set_cons_succ])
      refine wpAnyH_ready (rs := [17]) (by kernel_rfl) (by simp) ?_
      refine AllReadyH.cons (o := ⟨some 60, _, _, _, _, _⟩) rfl (fun K hK => ?_) AllReadyH.nil
      go_simp
      go_at_call 28
      refine (HNV.out _ hBx3.out).mono ?_
      rintro e x4 ⟨rfl, hBx4⟩
      refine hK.out _ _ (HKP.out _ hBx4.out) (fun hHeld2 => ?_)
      clear hK K hHeld
      have hHeld := hHeld2
      clear hHeld2
      (try simp only [Act.put, List.setIfInBounds_toArray, List.set_cons_zero, List.set_cons_succ])
      refine wpAnyH_take (i := 18) (oi := ⟨some 61, _, _, _, _, _⟩) (v := ?_) rfl (by kernel_rfl) (by kernel_rfl) (by kernel_rfl) (fun _ _ _ h => h) (Or.inl ⟨by rfl, ?_⟩) (by assumption) ?_
      rotate_left
      · (intro w hSw; (try dsimp only at hSw); go_simp; all_goals (try with_reducible rfl))
      (try simp only [Act.put, List.setIfInBounds_toArray, List.set_cons_zero, List.set_cons_succ])
      refine wpAnyH_take (i := 19) (oi := ⟨some 62, _, _, _, _, _⟩) (v := ?_) rfl (by kernel_rfl) (by kernel_rfl) (by kernel_rfl) (fun _ _ _ h => h) (Or.inl ⟨by rfl, ?_⟩) (by assumption) ?_
      rotate_left
      · (intro w hSw; (try dsimp only at hSw); go_simp; all_goals (try with_reducible rfl))
      (try simp only [Act.put, List.setIfInBounds_toArray, List.set_cons_zero, List.set_cons_succ])
      refine wpAnyH_take (i := 20) (oi := ⟨some 63, _, _, _, _, _⟩) (v := ?_) rfl (by kernel_rfl) (by kernel_rfl) (by kernel_rfl) (fun _ _ _ h => h) (Or.inl ⟨by rfl, ?_⟩) (by assumption) ?_
      rotate_left
      · (intro w hSw; (try dsimp only at hSw); go_simp; all_goals (try with_reducible rfl))
      (try simp only [Act.put, List.setIfInBounds_toArray, List.set_cons_zero, List.set_cons_succ])
      refine wpAnyH_take (i := 21) (oi := ⟨some 64, _, _, _, _, _⟩) (v := ?_) rfl (by kernel_rfl) (by kernel_rfl) (by kernel_rfl) (fun _ _ _ h => h) (Or.inl ⟨by rfl, ?_⟩) (by assumption) ?_
      rotate_left
      · (intro w hSw; (try dsimp only at hSw); go_simp; all_goals (try with_reducible rfl))
      (try simp only [Act.put, List.setIfInBounds_toArray, List.set_cons_zero, List.set_cons_succ])
      refine wpAnyH_take (i := 22) (oi := ⟨some 2, _, _, _, _, _⟩) (v := ?_) rfl (by kernel_rfl) (by kernel_rfl) (by kernel_rfl) (fun _ _ _ h => h) (Or.inl ⟨by rfl, ?_⟩) (by assumption) ?_
      rotate_left
      · (intro w hSw; (try dsimp only at hSw); go_simp; all_goals (try with_reducible rfl))
      (try simp only [Act.put, List.setIfInBounds_toArray, List.set_cons_zero, List.set_cons_succ])
      refine wpAnyH_done (by kernel_rfl) ?_ _
      have HLAST := hBx4
      go_wp2_with fail
      go_ret
      exact ⟨rfl, HW.out.1.trans ((H7.out.1.trans (HLAST.out.mono H7.out.1.size)).mono HW.out.1.size)⟩
    | false =>
      have hn1 : countP (progS s) = -1 := by simp [countP, hp]
      have hge : decide ((0 : Int) ≤ -1) = false := by decide
      have hlt : decide ((-1 : Int) < 0) = true := by decide
      rw [hp] at HPV
      rw [hn1]
      clear hp hn1
      refine wp_region_held_drew (S := (fun W => W.cell? ⟨pb, 0, none⟩ = some (.slice (some ⟨fb, 0, none⟩) 1 1) ∧ (W.cell? ⟨lb, 0, none⟩ = some (.int .i64 6) ∧ W.cell? ⟨lb, 1, none⟩ = some (.string ⟨#[]⟩) ∧ W.cell? ⟨lb, 2, none⟩ = some (.slice (some ⟨eb, 0, none⟩) 1 1) ∧ W.cell? ⟨lb, 3, none⟩ = some (.slice (some ⟨nb, 0, none⟩) 1 1) ∧ W.cell? ⟨lb, 4, none⟩ = some (.slice none 0 0)) ∧ (W.cell? ⟨db, 0, none⟩ = some (.int .i64 s.op) ∧ W.cell? ⟨db, 1, none⟩ = some (.string s.name) ∧ W.cell? ⟨db, 2, none⟩ = some (.slice none 0 0) ∧ W.cell? ⟨db, 3, none⟩ = some (.slice ba s.body.length bc) ∧ W.cell? ⟨db, 4, none⟩ = some (.slice ea s.els.length ec)))) (by kernel_rfl) (HKP.out _ ((Below.refl w7.heap.size w7).drew)) (fun hHeld => ?_)
      refine wpAnyH_take (i := 0) (oi := ⟨some 43, _, _, _, _, _⟩) (v := ?_) rfl (by kernel_rfl) (by kernel_rfl) (by kernel_rfl) (fun _ _ _ h => h) (Or.inl ⟨by rfl, ?_⟩) (by assumption) ?_
      rotate_left
      · (intro w hSw; (try dsimp only at hSw); go_simp; all_goals (try with_reducible rfl))
      (try simp only [Act.put, List.setIfInBounds_toArray, List.set_cons_zero, List.set_cons_succ])
      refine wpAnyH_take (i := 2) (oi := ⟨some 45, _, _, _, _, _⟩) (v := ?_) rfl (by kernel_rfl) (by kernel_rfl) (by kernel_rfl) (fun _ _ _ h => h) (Or.inl ⟨by rfl, ?_⟩) (by assumption) ?_
      rotate_left
      · (intro w hSw; (try dsimp only at hSw); go_simp; all_goals (try with_reducible rfl))
      (try simp only [Act.put, List.setIfInBounds_toArray, List.set_cons_zero, List.set_cons_succ])
      refine wpAnyH_take (i := 3) (oi := ⟨some 46, _, _, _, _, _⟩) (v := ?_) rfl (by kernel_rfl) (by kernel_rfl) (by kernel_rfl) (fun _ _ _ h => h) (Or.inl ⟨by rfl, ?_⟩) (by assumption) ?_
      rotate_left
      · (intro w hSw; (try dsimp only at hSw); go_simp; all_goals (try with_reducible rfl))
      (try simp only [Act.put, List.setIfInBounds_toArray, List.set_cons_zero, List.set_cons_succ])
      refine wpAnyH_ready (rs := [1]) (by kernel_rfl) (by simp) ?_
      refine AllReadyH.cons (o := ⟨some 44, _, _, _, _, _⟩) rfl (fun K hK => ?_) AllReadyH.nil
      go_simp
      go_at_call 21
      refine (HPV.out _ ((Below.refl w7.heap.size w7).drew)).mono ?_
      rintro e x1 ⟨rfl, hBx1⟩
      refine hK.out _ _ (HKP.out _ hBx1.out) (fun hHeld2 => ?_)
      clear hK K hHeld
      have hHeld := hHeld2
      clear hHeld2
      (try simp only [Act.put, List.setIfInBounds_toArray, List.set_cons_zero, List.set_cons_succ])
      refine wpAnyH_take (i := 4) (oi := ⟨some 47, _, _, _, _, _⟩) (v := ?_) rfl (by kernel_rfl) (by kernel_rfl) (by kernel_rfl) (fun _ _ _ h => h) (Or.inl ⟨by rfl, ?_⟩) (by assumption) ?_
      rotate_left
      · (intro w hSw; (try dsimp only at hSw); go_simp; all_goals (try with_reducible rfl))
      (try simp only [Act.put, List.setIfInBounds_toArray, List.set_cons_zero, List.set_cons_succ])
      refine wpAnyH_take (i := 5) (oi := ⟨some 48, _, _, _, _, _⟩) (v := ?_) rfl (by kernel_rfl) (by kernel_rfl) (by kernel_rfl) (fun _ _ _ h => h) (Or.inl ⟨by rfl, ?_⟩) (by assumption) ?_
      rotate_left
      · (intro w hSw; (try dsimp only at hSw); go_simp; all_goals (try with_reducible rfl))
      (try simp only [Act.put, List.setIfInBounds_toArray, List.set_cons_zero, List.set_cons_succ])
      refine wpAnyH_take (i := 6) (oi := ⟨some 49, _, _, _, _, _⟩) (v := ?_) rfl (by kernel_rfl) (by kernel_rfl) (by kernel_rfl) (fun _ _ _ h => h) (Or.inl ⟨by rfl, ?_⟩) (by assumption) ?_
      rotate_left
      · (intro w hSw; (try dsimp only at hSw); go_simp; all_goals (try with_reducible rfl))
      (try simp only [Act.put, List.setIfInBounds_toArray, List.set_cons_zero, List.set_cons_succ])
      refine wpAnyH_ready (rs := [7]) (by kernel_rfl) (by simp) ?_
      refine AllReadyH.cons (o := ⟨some 50, _, _, _, _, _⟩) rfl (fun K hK => ?_) AllReadyH.nil
      go_simp
      go_at_call 25
      refine (HBV.out _ hBx1.out).mono ?_
      rintro e x2 ⟨rfl, hBx2⟩
      refine hK.out _ _ (HKP.out _ hBx2.out) (fun hHeld2 => ?_)
      clear hK K hHeld
      have hHeld := hHeld2
      clear hHeld2
      (try simp only [Act.put, List.setIfInBounds_toArray, List.set_cons_zero, List.set_cons_succ])
      refine wpAnyH_take (i := 8) (oi := ⟨some 51, _, _, _, _, _⟩) (v := ?_) rfl (by kernel_rfl) (by kernel_rfl) (by kernel_rfl) (fun _ _ _ h => h) (Or.inl ⟨by rfl, ?_⟩) (by assumption) ?_
      rotate_left
      · (intro w hSw; (try dsimp only at hSw); go_simp; all_goals (try with_reducible rfl))
      (try simp only [Act.put, List.setIfInBounds_toArray, List.set_cons_zero, List.set_cons_succ])
      refine wpAnyH_take (i := 9) (oi := ⟨some 52, _, _, _, _, _⟩) (v := ?_) rfl (by kernel_rfl) (by kernel_rfl) (by kernel_rfl) (fun _ _ _ h => h) (Or.inl ⟨by rfl, ?_⟩) (by assumption) ?_
      rotate_left
      · (intro w hSw; (try dsimp only at hSw); go_simp; all_goals (try with_reducible rfl))
      (try simp only [Act.put, List.setIfInBounds_toArray, List.set_cons_zero, List.set_cons_succ])
      refine wpAnyH_take (i := 10) (oi := ⟨some 53, _, _, _, _, _⟩) (v := ?_) rfl (by kernel_rfl) (by kernel_rfl) (by kernel_rfl) (fun _ _ _ h => h) (Or.inl ⟨by rfl, ?_⟩) (by assumption) ?_
      rotate_left
      · (intro w hSw; (try dsimp only at hSw); go_simp; all_goals (try with_reducible rfl))
      (try simp only [Act.put, List.setIfInBounds_toArray, List.set_cons_zero, List.set_cons_succ])
      refine wpAnyH_take (i := 11) (oi := ⟨some 54, _, _, _, _, _⟩) (v := ?_) rfl (by kernel_rfl) (by kernel_rfl) (by kernel_rfl) (fun _ _ _ h => h) (Or.inl ⟨by rfl, ?_⟩) (by assumption) ?_
      rotate_left
      · (intro w hSw; (try dsimp only at hSw); go_simp; all_goals (try with_reducible rfl))
      (try simp only [Act.put, List.setIfInBounds_toArray, List.set_cons_zero, List.set_cons_succ])
      refine wpAnyH_take (i := 12) (oi := ⟨some 55, _, _, _, _, _⟩) (v := ?_) rfl (by kernel_rfl) (by kernel_rfl) (by kernel_rfl) (fun _ _ _ h => h) (Or.inl ⟨by rfl, ?_⟩) (by assumption) ?_
      rotate_left
      · (intro w hSw; (try dsimp only at hSw); go_simp; all_goals (try with_reducible rfl))
      (try simp only [Act.put, List.setIfInBounds_toArray, List.set_cons_zero, List.set_cons_succ])
      refine wpAnyH_take (i := 13) (oi := ⟨some 56, _, _, _, _, _⟩) (v := ?_) rfl (by kernel_rfl) (by kernel_rfl) (by kernel_rfl) (fun _ _ _ h => h) (Or.inl ⟨by rfl, ?_⟩) (by assumption) ?_
      rotate_left
      · (intro w hSw; (try dsimp only at hSw); go_simp; all_goals (try with_reducible rfl))
      (try simp only [Act.put, List.setIfInBounds_toArray, List.set_cons_zero, List.set_cons_succ])
      refine wpAnyH_take (i := 14) (oi := ⟨some 57, _, _, _, _, _⟩) (v := undef) rfl (by kernel_rfl) (by kernel_rfl) (by kernel_rfl) (fun _ _ _ h => h) (Or.inr ⟨by rfl, rfl⟩) (by assumption) ?_
      (try simp only [Act.put, List.setIfInBounds_toArray, List.set_cons_zero, List.set_cons_succ])
      refine wpAnyH_take (i := 15) (oi := ⟨some 58, _, _, _, _, _⟩) (v := undef) rfl (by kernel_rfl) (by kernel_rfl) (by kernel_rfl) (fun _ _ _ h => h) (Or.inr ⟨by rfl, rfl⟩) (by assumption) ?_
      (try simp only [Act.put, List.setIfInBounds_toArray, List.set_cons_zero, List.set_cons_succ])
      refine wpAnyH_take (i := 16) (oi := ⟨some 59, _, _, _, _, _⟩) (v := undef) rfl (by kernel_rfl) (by kernel_rfl) (by kernel_rfl) (fun _ _ _ h => h) (Or.inr ⟨by rfl, rfl⟩) (by assumption) ?_
      (try simp only [Act.put, List.setIfInBounds_toArray, List.set_cons_zero, List.set_cons_succ])
      refine wpAnyH_take (i := 17) (oi := ⟨some 60, _, _, _, _, _⟩) (v := undef) rfl (by kernel_rfl) (by kernel_rfl) (by kernel_rfl) (fun _ _ _ h => h) (Or.inr ⟨by rfl, rfl⟩) (by assumption) ?_
      (try simp only [Act.put, List.setIfInBounds_toArray, List.set_cons_zero, List.set_cons_succ])
      refine wpAnyH_take (i := 18) (oi := ⟨some 61, _, _, _, _, _⟩) (v := undef) rfl (by kernel_rfl) (by kernel_rfl) (by kernel_rfl) (fun _ _ _ h => h) (Or.inr ⟨by rfl, rfl⟩) (by assumption) ?_
      (try simp only [Act.put, List.setIfInBounds_toArray, List.set_cons_zero, List.set_cons_succ])
      refine wpAnyH_take (i := 19) (oi := ⟨some 62, _, _, _, _, _⟩) (v := undef) rfl (by kernel_rfl) (by kernel_rfl) (by kernel_rfl) (fun _ _ _ h => h) (Or.inr ⟨by rfl, rfl⟩) (by assumption) ?_
      (try simp only [Act.put, List.setIfInBounds_toArray, List.set_cons_zero, List.set_cons_succ])
      refine wpAnyH_take (i := 20) (oi := ⟨some 63, _, _, _, _, _⟩) (v := ?_) rfl (by kernel_rfl) (by kernel_rfl) (by kernel_rfl) (fun _ _ _ h => h) (Or.inl ⟨by rfl, ?_⟩) (by assumption) ?_
      rotate_left
      · (intro w hSw; (try dsimp only at hSw); go_simp; all_goals (try with_reducible rfl))
      (try simp only [Act.put, List.setIfInBounds_toArray, List.set_cons_zero, List.set_cons_succ])
      refine wpAnyH_take (i := 21) (oi := ⟨some 64, _, _, _, _, _⟩) (v := ?_) rfl (by kernel_rfl) (by kernel_rfl) (by kernel_rfl) (fun _ _ _ h => h) (Or.inl ⟨by rfl, ?_⟩) (by assumption) ?_
      rotate_left
      · (intro w hSw; (try dsimp only at hSw); go_simp; all_goals (try with_reducible rfl))
      (try simp only [Act.put, List.setIfInBounds_toArray, List.set_cons_zero, List.set_cons_succ])
      refine wpAnyH_take (i := 22) (oi := ⟨some 2, _, _, _, _, _⟩) (v := ?_) rfl (by kernel_rfl) (by kernel_rfl) (by kernel_rfl) (fun _ _ _ h => h) (Or.inl ⟨by rfl, ?_⟩) (by assumption) ?_
      rotate_left
      · (intro w hSw; (try dsimp only at hSw); go_simp; all_goals (try with_reducible rfl))
      (try simp only [Act.put, List.setIfInBounds_toArray, List.set_cons_zero, List.set_cons_succ])
      refine wpAnyH_done (by kernel_rfl) ?_ _
      have HLAST := hBx2
      go_wp2_with fail
      go_ret
      exact ⟨rfl, HW.out.1.trans ((H7.out.1.trans (HLAST.out.mono H7.out.1.size)).mono HW.out.1.size)⟩

end Go.Proofs.YtccfbnhlhjlmgaaDoor
