/-
  Whether statements are valid (the program's): argCount, stmtOk, blockOk.
-/
import Derived.Test.YtccdmgncjlpebaaDoorIx
import Derived.Test.YtccdmgncjlpebaaDoorPe1
import Derived.Test.YtccdmgncjlpebaaDoorNm
import Derived.Deep.CutBlock
import Derived.Deep.DeepCutAuto

namespace Go.Proofs.YtccdmgncjlpebaaDoor
open Go.RowKit
set_option linter.unusedVariables false

theorem results_tmp4 {fn : Func} {t u v x : Tmp} (h : fn.results = #[.tmp t, .tmp u, .tmp v, .tmp x]) (tmps : Array Value) (P : Program) (w : World) :
    (results fn tmps).run P w = .ok (.tuple #[tmps.getD t undef, tmps.getD u undef, tmps.getD v undef, tmps.getD x undef]) w := by
  simp [results, h]
def argN (op : Int) : Int := if op = 4 then 2 else if inE 1 op 8 = true then 1 else -1
def bodyB (op : Int) : Bool := op == 5 || op == 6
theorem argCount_any (op : Int) (w : World) : Calls Tryd.prog 47 #[.int .i64 op] w fun e w' => e = .returned (.tuple #[.int .i64 (argN op), .bool (namedB op), .bool (bodyB op), .bool (op == 5)]) ∧ w' = w := by
  by_cases hin : 1 ≤ op ∧ op ≤ 8
  · have hc : op = 1 ∨ op = 2 ∨ op = 3 ∨ op = 4 ∨ op = 5 ∨ op = 6 ∨ op = 7 ∨ op = 8 := by omega
    clear hin
    rcases hc with rfl | rfl | rfl | rfl | rfl | rfl | rfl | rfl
    all_goals
      go_enter Tryd.func47, Tryd.ntmps47
      go_wp2
      refine bodyPost_ret (results_tmp4 rfl _ _ _) rfl ?_
      exact ⟨rfl, rfl⟩
  · have HIN := Lib.hid (show inE 1 op 8 = false by rw [inE, Bool.and_eq_false_iff, decide_eq_false_iff_not, decide_eq_false_iff_not]; omega)
    have t1 : (op == 1) = false := by simp; omega
    have t2 : (op == 2) = false := by simp; omega
    have t3 : (op == 3) = false := by simp; omega
    have t4 : (op == 4) = false := by simp; omega
    have t5 : (op == 5) = false := by simp; omega
    have t6 : (op == 6) = false := by simp; omega
    have t7 : (op == 7) = false := by simp; omega
    have t8 : (op == 8) = false := by simp; omega
    have HR := Lib.hid (show argN op = -1 ∧ namedB op = false ∧ bodyB op = false by
      refine ⟨?_, by rw [namedB, t1, t2]; rfl, by rw [bodyB, t5, t6]; rfl⟩
      rw [argN, if_neg (by omega), HIN.out, if_neg (by simp)])
    rw [HR.out.1, HR.out.2.1, HR.out.2.2, t5]
    clear hin
    go_enter Tryd.func47, Tryd.ntmps47
    go_wp2
    refine bodyPost_ret (results_tmp4 rfl _ _ _) rfl ?_
    exact ⟨rfl, rfl⟩
/-- What fells a statement ahead of its parts. -/
def badS (n : Int) (nm bd ot : Bool) (op : Int) (name : ByteArray) (args : List ExprD) (body els : List StmtD) : Bool :=
  ((args.length : Int) != n) || ((nm && !nameD name) || ((!nm && !name.toList.isEmpty) || ((!bd && !(body.length == 0)) || ((!ot && !(els.length == 0)) || ((op == 8) && !((args.getD 0 default).op == 13))))))
theorem bad_own (op : Int) (name : ByteArray) (args : List ExprD) (body els : List StmtD) : ownS (.mk op name args body els) = (!badS (argN op) (namedB op) (bodyB op) (op == 5) op name args body els && args.all validE) := by
  have hn := fun h => nameD_none (s := name) h
  rw [own_form, badS]
  by_cases hin : 1 ≤ op ∧ op ≤ 8
  · have h1 : inE 1 op 8 = true := by simp [inE, hin.1, hin.2]
    have ha : argN op = argsN op := by unfold argN argsN; rw [h1]; simp
    rw [h1, ha]
    unfold bodyB
    rw [show ((args.length : Int) != argsN op) = !((args.length : Int) == argsN op) from rfl]
    generalize ((args.length : Int) == argsN op) = B
    generalize namedB op = N
    generalize nameD name = M at hn ⊢
    generalize name.toList.isEmpty = D at hn ⊢
    generalize args.all validE = E
    generalize ((args.getD 0 default).op == 13) = F
    generalize (op == 8) = K
    generalize (op == 5) = G
    generalize (op == 6) = H
    generalize (els.length == 0) = I
    generalize (body.length == 0) = J
    have hn' : D = true → M = false := hn
    clear hn ha h1 hin
    revert B N M D E F K G H I J
    decide
  · have h1 : inE 1 op 8 = false := by rw [inE, Bool.and_eq_false_iff, decide_eq_false_iff_not, decide_eq_false_iff_not]; omega
    have ha : argN op = -1 := by unfold argN; rw [if_neg (by omega), h1, if_neg (by simp)]
    rw [h1, ha]
    have hne : ((args.length : Int) != -1) = true := by simp
    rw [hne]
    rfl

def StmtIV (D : Nat) : Prop := ∀ (d : Nat) (S : Nat → Prop) (cs : List Value) (s : StmtD) (w : World), d ≤ 4 → OpsAt w → KeysAt w → StmtP D S w cs s →
    Calls Tryd.prog 35 #[.agg cs.toArray, .int .i64 (5 - d : Int)] w fun e w' => e = .returned (.bool (stmtB d s)) ∧ Below w.heap.size w w'

set_option maxHeartbeats 1000000 in
theorem blockOkC_any (D : Nat) (hD : StmtIV D) (d : Nat) (S : Nat → Prop) (nb : Nat) (cs : List Value) (s : StmtD) (w : World) (hd : d ≤ 4) (hO : OpsAt w) (hK : KeysAt w) (hn : w.heap[nb]? = some (.cells #[.int .i64 (5 - d : Int)] 3 (0, 0))) (h : StmtP D S w cs s) :
    Calls Tryd.prog 34 (#[.agg cs.toArray] ++ #[.pointer (some ⟨nb, 0, none⟩)]) w fun e w' => e = .returned (.bool (!stmtB d s)) ∧ Below w.heap.size w w' := by
  obtain ⟨aa, ac, ba, bc, ea, ec, rfl⟩ := stmtP_form h
  have hba : Below w.heap.size w (w.alloc (.cells #[.int .i64 s.op, .string s.name, .slice aa s.args.length ac, .slice ba s.body.length bc, .slice ea s.els.length ec] 57)) := (Below.refl _ _).alloc (Nat.le_refl _) _
  have hrow := heap_alloc_new w (.cells #[.int .i64 s.op, .string s.name, .slice aa s.args.length ac, .slice ba s.body.length bc, .slice ea s.els.length ec] 57)
  have hn2 := (hba.block _ (Array.getElem?_eq_some_iff.1 hn).1).trans hn
  have HB := Lib.hid (And.intro hba (hD d S _ s _ hd (hO.later hba) (hK.later hba) ((stmtP_stays D).below hba h)))
  obtain ⟨q, hq⟩ : ∃ q : Int, q = 5 - d := ⟨_, rfl⟩
  rw [← hq] at HB hn2
  have n0 := cell_of_row _ _ 0 _ _ _ hn2
  have p0 := cell_of_row _ _ 0 _ _ _ hrow
  have p1 := cell_of_row _ _ 1 _ _ _ hrow
  have p2 := cell_of_row _ _ 2 _ _ _ hrow
  have p3 := cell_of_row _ _ 3 _ _ _ hrow
  have p4 := cell_of_row _ _ 4 _ _ _ hrow
  simp only [List.getElem?_toArray, List.getElem?_cons_zero, List.getElem?_cons_succ] at n0 p0 p1 p2 p3 p4
  obtain ⟨b, hb⟩ : ∃ b, b = stmtB d s := ⟨_, rfl⟩
  rw [← hb] at HB ⊢
  clear hba hrow hn hn2 hO hK h hD hd hq hb
  show Calls _ _ #[.agg #[.int .i64 s.op, .string s.name, .slice aa s.args.length ac, .slice ba s.body.length bc, .slice ea s.els.length ec], .pointer (some ⟨nb, 0, none⟩)] w _
  go_enter Tryd.func34, Tryd.ntmps34
  go_wp2_with fail
  refine HB.out.2.mono ?_
  rintro e w5 ⟨rfl, hb5⟩
  have HB5 := Lib.hid (HB.out.1.trans (hb5.mono HB.out.1.size))
  clear hb5 p0 p1 p2 p3 p4 n0
  go_wp2
  go_ret
  exact ⟨rfl, HB5.out⟩

set_option maxHeartbeats 1000000 in
theorem blockOk_any (D : Nat) (hD : StmtIV D) (d : Nat) (S : Nat → Prop) (a : Option Addr) (c : Nat) (xs : List StmtD) (w : World) (hd : d ≤ 4) (hO : OpsAt w) (hK : KeysAt w) (h : ListK 5 (StmtP D) S w a xs) (hl : xs.length ≤ 100) :
    Calls Tryd.prog 19 #[.slice a xs.length c, .int .i64 (5 - d : Int)] w fun e w' => e = .returned (.bool (xs.all (stmtB d))) ∧ Below w.heap.size w w' := by
  have hba : Below w.heap.size w (w.alloc (.cells #[.int .i64 (5 - d : Int)] 3)) := (Below.refl _ _).alloc (Nat.le_refl _) _
  have hrow := heap_alloc_new w (.cells #[.int .i64 (5 - d : Int)] 3)
  have HC := Lib.hid (And.intro hba (hasS_any 34 #[.pointer (some ⟨w.heap.size, 0, none⟩)] D S (fun s => !stmtB d s) a c xs _ (h.below (stmtP_stays D) hba) (by omega) ⟨fun v W => by kernel_rfl, fun x _ cs W hW hx => by
    have hbW := hba.trans (hW.mono hba.size)
    exact blockOkC_any D hD d S w.heap.size cs x W hd (hO.later hbW) (hK.later hbW) ((hW.block _ (Array.getElem?_eq_some_iff.1 hrow).1).trans hrow) hx⟩))
  have hall : xs.any (fun s => !stmtB d s) = !(xs.all (stmtB d)) := by
    rw [Bool.eq_iff_iff]; simp
  rw [hall] at HC
  obtain ⟨b, hb⟩ : ∃ b, b = xs.all (stmtB d) := ⟨_, rfl⟩
  rw [← hb] at HC ⊢
  obtain ⟨q, hq⟩ : ∃ q : Int, q = 5 - d := ⟨_, rfl⟩
  rw [← hq] at HC ⊢
  clear hba hrow hall hb hq hO hK h hD hd hl
  go_enter Tryd.func19, Tryd.ntmps19
  go_wp2_with fail
  refine HC.out.2.mono ?_
  rintro e w5 ⟨rfl, hb5⟩
  have HB5 := Lib.hid (HC.out.1.trans (hb5.mono HC.out.1.size))
  clear hb5
  go_wp2
  go_ret
  exact ⟨ret_bool (by cases b <;> rfl), HB5.out⟩

set_option maxRecDepth 100000 in
set_option maxHeartbeats 4000000 in
theorem stmtOk_step (D : Nat) (hD : StmtIV D) : StmtIV (D + 1) := by
  intro d S cs s w hd hO hK h
  obtain ⟨aa, ac, ba, bc, ea, ec, rfl, hb, hA, hB, hE⟩ := h
  obtain ⟨op, name, args, body, els⟩ := s
  simp only [StmtD.op, StmtD.name, StmtD.args, StmtD.body, StmtD.els] at *
  obtain ⟨R, hR⟩ : ∃ R, R = stmtB d (.mk op name args body els) := ⟨_, rfl⟩
  rw [← hR]
  have HR := Lib.hid hR
  clear hR
  have hba : Below w.heap.size w (w.alloc (.cells #[.int .i64 op, .string name, .slice aa args.length ac, .slice ba body.length bc, .slice ea els.length ec] 57)) := (Below.refl _ _).alloc (Nat.le_refl _) _
  have HB := Lib.hid (And.intro hba (And.intro (hA.below (exprK_stays 12) hba) (And.intro (hB.below (stmtP_stays D) hba) (And.intro (hE.below (stmtP_stays D) hba) (And.intro (hO.later hba) (hK.later hba))))))
  have hrow := heap_alloc_new w (.cells #[.int .i64 op, .string name, .slice aa args.length ac, .slice ba body.length bc, .slice ea els.length ec] 57)
  have HL := Lib.hid (And.intro hb (And.intro hD hd))
  have hla : args.length ≤ 9223372036854775807 := by omega
  clear hba hA hB hE hb hD hO hK
  obtain ⟨q, hq⟩ : ∃ q : Int, q = 5 - d := ⟨_, rfl⟩
  rw [← hq]
  have HQ := Lib.hid hq
  clear hq
  obtain ⟨n, hn⟩ : ∃ n, n = argN op := ⟨_, rfl⟩
  obtain ⟨nm, hnm⟩ : ∃ n, n = namedB op := ⟨_, rfl⟩
  obtain ⟨bd, hbd⟩ : ∃ n, n = bodyB op := ⟨_, rfl⟩
  obtain ⟨ot, hot⟩ : ∃ n, n = (op == 5) := ⟨_, rfl⟩
  have HOWN := Lib.hid (show ownS (.mk op name args body els) = (!badS n nm bd ot op name args body els && args.all validE) by rw [bad_own, ← hn, ← hnm, ← hbd, ← hot])
  have HAC := Lib.hid (fun W => argCount_any op W)
  rw [← hn, ← hnm, ← hbd, ← hot] at HAC
  have HNN := Lib.hid (show n ≤ 2 ∧ (op = 8 → n = 1) by
    rw [hn, argN]
    constructor
    · split
      · omega
      · split <;> omega
    · rintro rfl; decide)
  clear hn hnm hbd hot
  show Calls _ _ #[.agg #[.int .i64 op, .string name, .slice aa args.length ac, .slice ba body.length bc, .slice ea els.length ec], _] w _
  go_enter Tryd.func35, Tryd.ntmps35
  go_upto_region 1 with fail
  obtain ⟨pb, hpb⟩ : ∃ b, b = w.heap.size := ⟨_, rfl⟩
  rw [← hpb] at hrow ⊢
  generalize w.alloc (.cells #[.int .i64 op, .string name, .slice aa args.length ac, .slice ba body.length bc, .slice ea els.length ec] 57) = W1 at hrow HB ⊢
  have HBW := Lib.hid (show Below w.heap.size w W1 from HB.out.1)
  clear hpb
  have p0 := cell_of_row _ _ 0 _ _ _ hrow
  have p1 := cell_of_row _ _ 1 _ _ _ hrow
  have p2 := cell_of_row _ _ 2 _ _ _ hrow
  have p3 := cell_of_row _ _ 3 _ _ _ hrow
  have p4 := cell_of_row _ _ 4 _ _ _ hrow
  simp only [List.getElem?_toArray, List.getElem?_cons_zero, List.getElem?_cons_succ] at p0 p1 p2 p3 p4
  clear hrow
  go_wp2_with fail
  refine (HAC.out W1).mono ?_
  rintro e w2 ⟨rfl, rfl⟩
  have HNM := Lib.hid (isNameI_any name w2 HB.out.2.2.2.2.2)
  go_upto_if 19 with fail
  go_cut [6, 7, 8, 11, 14, 16, 17, 18, 19] (fun v6 v7 v8 v11 v14 v16 v17 v18 v wx => v = .bool (decide (4 < q) || badS n nm bd ot op name args body els) ∧ Hid (Below w2.heap.size w2 wx))
  case first =>
    as_aux_lemma =>
      by_cases hd0 : d = 0
      · have hq4 : (4 : Int) < q := by have := HQ.out; omega
        have HBX := Lib.hid (Below.refl w2.heap.size w2)
        have hq4d : decide (4 < q) = true := decide_eq_true hq4
        clear hd0
        go_wp2_with fail
        go_meet
        exact ⟨by rw [hq4d]; rfl, HBX⟩
      · have hq4 : ¬ (4 : Int) < q := by have := HQ.out; omega
        have hq4d : decide (4 < q) = false := decide_eq_false hq4
        clear hd0
        cases hln : ((args.length : Int) == n) with
        | false =>
          have hnn : ((args.length : Int) != n) = true := by rw [bne, hln]; rfl
          have HBX := Lib.hid (Below.refl w2.heap.size w2)
          go_wp2_with fail
          go_meet
          exact ⟨by rw [badS, hq4d, hnn]; simp, HBX⟩
        | true =>
          have hnn : ((args.length : Int) != n) = false := by rw [bne, hln]; rfl
          have HLN := Lib.hid (show (args.length : Int) = n by simpa using hln)
          cases hnm : nm with
          | true =>
            cases hM : nameD name with
            | true =>
              rw [hM] at HNM
              go_wp2_with fail
              refine HNM.out.mono ?_
              rintro e w5 ⟨rfl, hb5⟩
              have HBX := Lib.hid hb5
              have k0 := cell_later hb5 p0
              have k1 := cell_later hb5 p1
              have k2 := cell_later hb5 p2
              have k3 := cell_later hb5 p3
              have k4 := cell_later hb5 p4
              clear hb5 p0 p1 p2 p3 p4
              cases hbd : bd with
              | true =>
                cases hot : ot with
                | true =>
                  by_cases t8o : op = 8
                  · have HN1 := Lib.hid (HNN.out.2 t8o)
                    have t8 : (op == 8) = true := by simpa using t8o
                    have hl0 : 0 < args.length := by have := HLN.out; have := HN1.out; omega
                    obtain ⟨ab, aoff, x0, xa, xc, haa, hx0, -, c0, -, -, -⟩ := expr_place (HB.out.2.1.below (exprK_stays 12) HBX.out) hl0
                    rw [Nat.zero_mul, Nat.add_zero] at c0
                    have hg : (args.getD 0 default).op = x0.op := by rw [List.getD_eq_getElem?_getD, hx0]; rfl
                    subst haa
                    have hli : (0 : Int) < (args.length : Int) := by omega
                    clear hx0 hl0 t8o
                    cases t13 : (x0.op == 13) with
                    | false =>
                      have t13n : (x0.op != 13) = true := by rw [bne, t13]; rfl
                      go_wp2_with fail
                      go_meet
                      exact ⟨by rw [badS, hq4d, hnn, hnm, hM, hbd, hot, t8, hg, t13]; simp, HBX⟩
                    | true =>
                      have t13n : (x0.op != 13) = false := by rw [bne, t13]; rfl
                      go_wp2_with fail
                      go_meet
                      exact ⟨by rw [badS, hq4d, hnn, hnm, hM, hbd, hot, t8, hg, t13]; simp, HBX⟩
                  · have t8 : (op == 8) = false := by simpa using t8o
                    clear t8o
                    go_wp2_with fail
                    go_meet
                    exact ⟨by rw [badS, hq4d, hnn, hnm, hM, hbd, hot, t8]; simp, HBX⟩
                | false =>
                  by_cases he : els.length = 0
                  · have heb : (els.length == 0) = true := by simpa using he
                    have hed : ¬ 0 < els.length := by omega
                    clear he
                    by_cases t8o : op = 8
                    · have HN1 := Lib.hid (HNN.out.2 t8o)
                      have t8 : (op == 8) = true := by simpa using t8o
                      have hl0 : 0 < args.length := by have := HLN.out; have := HN1.out; omega
                      obtain ⟨ab, aoff, x0, xa, xc, haa, hx0, -, c0, -, -, -⟩ := expr_place (HB.out.2.1.below (exprK_stays 12) HBX.out) hl0
                      rw [Nat.zero_mul, Nat.add_zero] at c0
                      have hg : (args.getD 0 default).op = x0.op := by rw [List.getD_eq_getElem?_getD, hx0]; rfl
                      subst haa
                      have hli : (0 : Int) < (args.length : Int) := by omega
                      clear hx0 hl0 t8o
                      cases t13 : (x0.op == 13) with
                      | false =>
                        have t13n : (x0.op != 13) = true := by rw [bne, t13]; rfl
                        go_wp2_with fail
                        go_meet
                        exact ⟨by rw [badS, hq4d, hnn, hnm, hM, hbd, hot, heb, t8, hg, t13]; simp, HBX⟩
                      | true =>
                        have t13n : (x0.op != 13) = false := by rw [bne, t13]; rfl
                        go_wp2_with fail
                        go_meet
                        exact ⟨by rw [badS, hq4d, hnn, hnm, hM, hbd, hot, heb, t8, hg, t13]; simp, HBX⟩
                    · have t8 : (op == 8) = false := by simpa using t8o
                      clear t8o
                      go_wp2_with fail
                      go_meet
                      exact ⟨by rw [badS, hq4d, hnn, hnm, hM, hbd, hot, heb, t8]; simp, HBX⟩
                  · have heb : (els.length == 0) = false := by simpa using he
                    have hed : 0 < els.length := by omega
                    clear he
                    go_wp2_with fail
                    go_meet
                    exact ⟨by rw [badS, hq4d, hnn, hnm, hM, hbd, hot, heb]; simp, HBX⟩
              | false =>
                by_cases hy : body.length = 0
                · have hyb : (body.length == 0) = true := by simpa using hy
                  have hyd : ¬ 0 < body.length := by omega
                  clear hy
                  cases hot : ot with
                  | true =>
                    by_cases t8o : op = 8
                    · have HN1 := Lib.hid (HNN.out.2 t8o)
                      have t8 : (op == 8) = true := by simpa using t8o
                      have hl0 : 0 < args.length := by have := HLN.out; have := HN1.out; omega
                      obtain ⟨ab, aoff, x0, xa, xc, haa, hx0, -, c0, -, -, -⟩ := expr_place (HB.out.2.1.below (exprK_stays 12) HBX.out) hl0
                      rw [Nat.zero_mul, Nat.add_zero] at c0
                      have hg : (args.getD 0 default).op = x0.op := by rw [List.getD_eq_getElem?_getD, hx0]; rfl
                      subst haa
                      have hli : (0 : Int) < (args.length : Int) := by omega
                      clear hx0 hl0 t8o
                      cases t13 : (x0.op == 13) with
                      | false =>
                        have t13n : (x0.op != 13) = true := by rw [bne, t13]; rfl
                        go_wp2_with fail
                        go_meet
                        exact ⟨by rw [badS, hq4d, hnn, hnm, hM, hbd, hyb, hot, t8, hg, t13]; simp, HBX⟩
                      | true =>
                        have t13n : (x0.op != 13) = false := by rw [bne, t13]; rfl
                        go_wp2_with fail
                        go_meet
                        exact ⟨by rw [badS, hq4d, hnn, hnm, hM, hbd, hyb, hot, t8, hg, t13]; simp, HBX⟩
                    · have t8 : (op == 8) = false := by simpa using t8o
                      clear t8o
                      go_wp2_with fail
                      go_meet
                      exact ⟨by rw [badS, hq4d, hnn, hnm, hM, hbd, hyb, hot, t8]; simp, HBX⟩
                  | false =>
                    by_cases he : els.length = 0
                    · have heb : (els.length == 0) = true := by simpa using he
                      have hed : ¬ 0 < els.length := by omega
                      clear he
                      by_cases t8o : op = 8
                      · have HN1 := Lib.hid (HNN.out.2 t8o)
                        have t8 : (op == 8) = true := by simpa using t8o
                        have hl0 : 0 < args.length := by have := HLN.out; have := HN1.out; omega
                        obtain ⟨ab, aoff, x0, xa, xc, haa, hx0, -, c0, -, -, -⟩ := expr_place (HB.out.2.1.below (exprK_stays 12) HBX.out) hl0
                        rw [Nat.zero_mul, Nat.add_zero] at c0
                        have hg : (args.getD 0 default).op = x0.op := by rw [List.getD_eq_getElem?_getD, hx0]; rfl
                        subst haa
                        have hli : (0 : Int) < (args.length : Int) := by omega
                        clear hx0 hl0 t8o
                        cases t13 : (x0.op == 13) with
                        | false =>
                          have t13n : (x0.op != 13) = true := by rw [bne, t13]; rfl
                          go_wp2_with fail
                          go_meet
                          exact ⟨by rw [badS, hq4d, hnn, hnm, hM, hbd, hyb, hot, heb, t8, hg, t13]; simp, HBX⟩
                        | true =>
                          have t13n : (x0.op != 13) = false := by rw [bne, t13]; rfl
                          go_wp2_with fail
                          go_meet
                          exact ⟨by rw [badS, hq4d, hnn, hnm, hM, hbd, hyb, hot, heb, t8, hg, t13]; simp, HBX⟩
                      · have t8 : (op == 8) = false := by simpa using t8o
                        clear t8o
                        go_wp2_with fail
                        go_meet
                        exact ⟨by rw [badS, hq4d, hnn, hnm, hM, hbd, hyb, hot, heb, t8]; simp, HBX⟩
                    · have heb : (els.length == 0) = false := by simpa using he
                      have hed : 0 < els.length := by omega
                      clear he
                      go_wp2_with fail
                      go_meet
                      exact ⟨by rw [badS, hq4d, hnn, hnm, hM, hbd, hyb, hot, heb]; simp, HBX⟩
                · have hyb : (body.length == 0) = false := by simpa using hy
                  have hyd : 0 < body.length := by omega
                  clear hy
                  go_wp2_with fail
                  go_meet
                  exact ⟨by rw [badS, hq4d, hnn, hnm, hM, hbd, hyb]; simp, HBX⟩
            | false =>
              rw [hM] at HNM
              go_wp2_with fail
              refine HNM.out.mono ?_
              rintro e w5 ⟨rfl, hb5⟩
              have HBX := Lib.hid hb5
              have k0 := cell_later hb5 p0
              have k1 := cell_later hb5 p1
              have k2 := cell_later hb5 p2
              have k3 := cell_later hb5 p3
              have k4 := cell_later hb5 p4
              clear hb5 p0 p1 p2 p3 p4
              go_wp2_with fail
              go_meet
              exact ⟨by rw [badS, hq4d, hnn, hnm, hM]; simp, HBX⟩
          | false =>
            have HBX := Lib.hid (Below.refl w2.heap.size w2)
            cases hE : name.toList.isEmpty with
            | true =>
              cases hbd : bd with
              | true =>
                cases hot : ot with
                | true =>
                  by_cases t8o : op = 8
                  · have HN1 := Lib.hid (HNN.out.2 t8o)
                    have t8 : (op == 8) = true := by simpa using t8o
                    have hl0 : 0 < args.length := by have := HLN.out; have := HN1.out; omega
                    obtain ⟨ab, aoff, x0, xa, xc, haa, hx0, -, c0, -, -, -⟩ := expr_place (HB.out.2.1.below (exprK_stays 12) HBX.out) hl0
                    rw [Nat.zero_mul, Nat.add_zero] at c0
                    have hg : (args.getD 0 default).op = x0.op := by rw [List.getD_eq_getElem?_getD, hx0]; rfl
                    subst haa
                    have hli : (0 : Int) < (args.length : Int) := by omega
                    clear hx0 hl0 t8o
                    cases t13 : (x0.op == 13) with
                    | false =>
                      have t13n : (x0.op != 13) = true := by rw [bne, t13]; rfl
                      go_wp2_with fail
                      go_meet
                      exact ⟨by rw [badS, hq4d, hnn, hnm, hE, hbd, hot, t8, hg, t13]; simp, HBX⟩
                    | true =>
                      have t13n : (x0.op != 13) = false := by rw [bne, t13]; rfl
                      go_wp2_with fail
                      go_meet
                      exact ⟨by rw [badS, hq4d, hnn, hnm, hE, hbd, hot, t8, hg, t13]; simp, HBX⟩
                  · have t8 : (op == 8) = false := by simpa using t8o
                    clear t8o
                    go_wp2_with fail
                    go_meet
                    exact ⟨by rw [badS, hq4d, hnn, hnm, hE, hbd, hot, t8]; simp, HBX⟩
                | false =>
                  by_cases he : els.length = 0
                  · have heb : (els.length == 0) = true := by simpa using he
                    have hed : ¬ 0 < els.length := by omega
                    clear he
                    by_cases t8o : op = 8
                    · have HN1 := Lib.hid (HNN.out.2 t8o)
                      have t8 : (op == 8) = true := by simpa using t8o
                      have hl0 : 0 < args.length := by have := HLN.out; have := HN1.out; omega
                      obtain ⟨ab, aoff, x0, xa, xc, haa, hx0, -, c0, -, -, -⟩ := expr_place (HB.out.2.1.below (exprK_stays 12) HBX.out) hl0
                      rw [Nat.zero_mul, Nat.add_zero] at c0
                      have hg : (args.getD 0 default).op = x0.op := by rw [List.getD_eq_getElem?_getD, hx0]; rfl
                      subst haa
                      have hli : (0 : Int) < (args.length : Int) := by omega
                      clear hx0 hl0 t8o
                      cases t13 : (x0.op == 13) with
                      | false =>
                        have t13n : (x0.op != 13) = true := by rw [bne, t13]; rfl
                        go_wp2_with fail
                        go_meet
                        exact ⟨by rw [badS, hq4d, hnn, hnm, hE, hbd, hot, heb, t8, hg, t13]; simp, HBX⟩
                      | true =>
                        have t13n : (x0.op != 13) = false := by rw [bne, t13]; rfl
                        go_wp2_with fail
                        go_meet
                        exact ⟨by rw [badS, hq4d, hnn, hnm, hE, hbd, hot, heb, t8, hg, t13]; simp, HBX⟩
                    · have t8 : (op == 8) = false := by simpa using t8o
                      clear t8o
                      go_wp2_with fail
                      go_meet
                      exact ⟨by rw [badS, hq4d, hnn, hnm, hE, hbd, hot, heb, t8]; simp, HBX⟩
                  · have heb : (els.length == 0) = false := by simpa using he
                    have hed : 0 < els.length := by omega
                    clear he
                    go_wp2_with fail
                    go_meet
                    exact ⟨by rw [badS, hq4d, hnn, hnm, hE, hbd, hot, heb]; simp, HBX⟩
              | false =>
                by_cases hy : body.length = 0
                · have hyb : (body.length == 0) = true := by simpa using hy
                  have hyd : ¬ 0 < body.length := by omega
                  clear hy
                  cases hot : ot with
                  | true =>
                    by_cases t8o : op = 8
                    · have HN1 := Lib.hid (HNN.out.2 t8o)
                      have t8 : (op == 8) = true := by simpa using t8o
                      have hl0 : 0 < args.length := by have := HLN.out; have := HN1.out; omega
                      obtain ⟨ab, aoff, x0, xa, xc, haa, hx0, -, c0, -, -, -⟩ := expr_place (HB.out.2.1.below (exprK_stays 12) HBX.out) hl0
                      rw [Nat.zero_mul, Nat.add_zero] at c0
                      have hg : (args.getD 0 default).op = x0.op := by rw [List.getD_eq_getElem?_getD, hx0]; rfl
                      subst haa
                      have hli : (0 : Int) < (args.length : Int) := by omega
                      clear hx0 hl0 t8o
                      cases t13 : (x0.op == 13) with
                      | false =>
                        have t13n : (x0.op != 13) = true := by rw [bne, t13]; rfl
                        go_wp2_with fail
                        go_meet
                        exact ⟨by rw [badS, hq4d, hnn, hnm, hE, hbd, hyb, hot, t8, hg, t13]; simp, HBX⟩
                      | true =>
                        have t13n : (x0.op != 13) = false := by rw [bne, t13]; rfl
                        go_wp2_with fail
                        go_meet
                        exact ⟨by rw [badS, hq4d, hnn, hnm, hE, hbd, hyb, hot, t8, hg, t13]; simp, HBX⟩
                    · have t8 : (op == 8) = false := by simpa using t8o
                      clear t8o
                      go_wp2_with fail
                      go_meet
                      exact ⟨by rw [badS, hq4d, hnn, hnm, hE, hbd, hyb, hot, t8]; simp, HBX⟩
                  | false =>
                    by_cases he : els.length = 0
                    · have heb : (els.length == 0) = true := by simpa using he
                      have hed : ¬ 0 < els.length := by omega
                      clear he
                      by_cases t8o : op = 8
                      · have HN1 := Lib.hid (HNN.out.2 t8o)
                        have t8 : (op == 8) = true := by simpa using t8o
                        have hl0 : 0 < args.length := by have := HLN.out; have := HN1.out; omega
                        obtain ⟨ab, aoff, x0, xa, xc, haa, hx0, -, c0, -, -, -⟩ := expr_place (HB.out.2.1.below (exprK_stays 12) HBX.out) hl0
                        rw [Nat.zero_mul, Nat.add_zero] at c0
                        have hg : (args.getD 0 default).op = x0.op := by rw [List.getD_eq_getElem?_getD, hx0]; rfl
                        subst haa
                        have hli : (0 : Int) < (args.length : Int) := by omega
                        clear hx0 hl0 t8o
                        cases t13 : (x0.op == 13) with
                        | false =>
                          have t13n : (x0.op != 13) = true := by rw [bne, t13]; rfl
                          go_wp2_with fail
                          go_meet
                          exact ⟨by rw [badS, hq4d, hnn, hnm, hE, hbd, hyb, hot, heb, t8, hg, t13]; simp, HBX⟩
                        | true =>
                          have t13n : (x0.op != 13) = false := by rw [bne, t13]; rfl
                          go_wp2_with fail
                          go_meet
                          exact ⟨by rw [badS, hq4d, hnn, hnm, hE, hbd, hyb, hot, heb, t8, hg, t13]; simp, HBX⟩
                      · have t8 : (op == 8) = false := by simpa using t8o
                        clear t8o
                        go_wp2_with fail
                        go_meet
                        exact ⟨by rw [badS, hq4d, hnn, hnm, hE, hbd, hyb, hot, heb, t8]; simp, HBX⟩
                    · have heb : (els.length == 0) = false := by simpa using he
                      have hed : 0 < els.length := by omega
                      clear he
                      go_wp2_with fail
                      go_meet
                      exact ⟨by rw [badS, hq4d, hnn, hnm, hE, hbd, hyb, hot, heb]; simp, HBX⟩
                · have hyb : (body.length == 0) = false := by simpa using hy
                  have hyd : 0 < body.length := by omega
                  clear hy
                  go_wp2_with fail
                  go_meet
                  exact ⟨by rw [badS, hq4d, hnn, hnm, hE, hbd, hyb]; simp, HBX⟩
            | false =>
              go_wp2_with fail
              go_meet
              exact ⟨by rw [badS, hq4d, hnn, hnm, hE]; simp, HBX⟩
  case rest =>
  obtain ⟨rfl, HB3⟩ := hcut
  have hd1 := HB3.out
  have HB4 := Lib.hid (And.intro (HBW.out.trans (hd1.mono HBW.out.size)) (And.intro (HB.out.2.1.below (exprK_stays 12) hd1) (And.intro (HB.out.2.2.1.below (stmtP_stays D) hd1) (And.intro (HB.out.2.2.2.1.below (stmtP_stays D) hd1) (And.intro (HB.out.2.2.2.2.1.later hd1) (HB.out.2.2.2.2.2.later hd1))))))
  have q2 := cell_later hd1 p2
  have q3 := cell_later hd1 p3
  have q4 := cell_later hd1 p4
  clear p0 p1 p2 p3 p4 hd1 HB HBW HB3 HNM
  cases hbad : (decide (4 < q) || badS n nm bd ot op name args body els) with
  | true =>
    have HF := Lib.hid (show false = R by
      rw [HR.out]
      cases d with
      | zero => rfl
      | succ d =>
        rw [decide_eq_false (by have := HQ.out; omega), Bool.false_or] at hbad
        rw [stmtB, HOWN.out, hbad]
        rfl)
    clear hbad
    go_wp2
    go_ret
    exact ⟨ret_bool HF.out, HB4.out.1⟩
  | false =>
  rw [Bool.or_eq_false_iff] at hbad
  obtain ⟨d, rfl⟩ : ∃ d', d = d' + 1 := by
    cases d with
    | zero => have := of_decide_eq_false hbad.1; have := HQ.out; omega
    | succ d => exact ⟨d, rfl⟩
  have HOG := Lib.hid (show R = (args.all validE && body.all (stmtB d) && els.all (stmtB d)) by
    rw [HR.out, stmtB, HOWN.out, hbad.2]
    rfl)
  have HQ1 := Lib.hid (show wrap64 (q + 1) = 5 - (d : Int) by rw [HQ.out, show (5 - ((d + 1 : Nat) : Int)) + 1 = 5 - (d : Int) by omega]; exact IntWalk.wrap64_in _ (by have := HL.out.2.2; omega))
  clear hbad HOWN HAC HNN HR
  go_wp2_with fail
  go_loopg [71] args.length (fun G i wr => ∃ (j : Nat), j + G = args.length ∧ i = .int .i64 j ∧ Hid (Below wc.heap.size wc wr ∧ (args.take j).all validE = true))
  case atStart => exact ⟨0, by omega, rfl, Lib.hid ⟨Below.refl _ _, rfl⟩⟩
  case round =>
    obtain ⟨j, hj, rfl, HG⟩ := hrel
    by_cases hlt : j < args.length
    · have hji : (j : Int) < (args.length : Int) := by omega
      obtain ⟨b, off, x, xa, xc, rfl, hx, hS, c0, c1, c2, c3⟩ := expr_place (HB4.out.2.1.below (exprK_stays 12) HG.out.1) hlt
      have hba : Below wr.heap.size wr (wr.alloc (.cells #[.int .i64 x.op, .int .i64 x.n, .string x.name, .slice xa x.kids.length xc] 54)) := (Below.refl _ _).alloc (Nat.le_refl _) _
      have hrow := heap_alloc_new wr (.cells #[.int .i64 x.op, .int .i64 x.n, .string x.name, .slice xa x.kids.length xc] 54)
      have hb1 := HG.out.1.trans (hba.mono HG.out.1.size)
      have HC := Lib.hid (And.intro hb1 (exprValidN_any 12 _ x _ (HB4.out.2.2.2.2.1.later hb1) (HB4.out.2.2.2.2.2.later hb1) (exprP_at (exprP_below hba hS.1))))
      have e0 := cell_of_row _ _ 0 _ _ _ hrow
      have e1 := cell_of_row _ _ 1 _ _ _ hrow
      have e2 := cell_of_row _ _ 2 _ _ _ hrow
      have e3 := cell_of_row _ _ 3 _ _ _ hrow
      simp only [List.getElem?_toArray, List.getElem?_cons_zero, List.getElem?_cons_succ] at e0 e1 e2 e3
      have HX := Lib.hid hx
      clear hx hS q2 q3 q4 hba hrow hb1
      cases hv : (sizeD nameD 6 x).isSome with
      | false =>
        rw [hv] at HC
        have HF := Lib.hid (show false = R by rw [HOG.out, all_not HX.out (show validE x = false from hv)]; rfl)
        clear hv
        go_wp2_with fail
        refine HC.out.2.mono ?_
        rintro e w5 ⟨rfl, hb5⟩
        have HB5 := Lib.hid (HB4.out.1.trans ((HC.out.1.trans (hb5.mono HC.out.1.size)).mono HB4.out.1.size))
        clear hb5 c0 c1 c2 c3 e0 e1 e2 e3
        go_wp2
        go_ret
        exact ⟨ret_bool HF.out, HB5.out⟩
      | true =>
        rw [hv] at HC
        have HT := Lib.hid (show (args.take (j + 1)).all validE = true by rw [all_take HX.out, HG.out.2, show validE x = true from hv]; rfl)
        clear hv
        go_wp2_with fail
        refine HC.out.2.mono ?_
        rintro e w5 ⟨rfl, hb5⟩
        have HB5 := Lib.hid (HC.out.1.trans (hb5.mono HC.out.1.size))
        clear hb5 c0 c1 c2 c3 e0 e1 e2 e3
        go_wp2
        go_roundg (gk - 1)
        case measure => omega
        case rel => exact ⟨j + 1, by omega, by go_num, Lib.hid ⟨HB5.out, HT.out⟩⟩
    · obtain rfl : j = args.length := by omega
      have HOJ := Lib.hid (show R = (body.all (stmtB d) && els.all (stmtB d)) by
        have h1 := HG.out.2
        rw [List.take_length] at h1
        rw [HOG.out, h1]
        rfl)
      have hbr := HG.out.1
      have hsub : wrap64 (q + 1) = 5 - (d : Int) := HQ1.out
      have HS1 := Lib.hid (blockOk_any D HL.out.2.1 d S ba bc body wr (by have := HL.out.2.2; omega) (HB4.out.2.2.2.2.1.later hbr) (HB4.out.2.2.2.2.2.later hbr) (HB4.out.2.2.1.below (stmtP_stays D) hbr) (by have := HL.out.1; omega))
      have HBr := Lib.hid (HB4.out.1.trans (hbr.mono HB4.out.1.size))
      have r3 := cell_later hbr q3
      have r4 := cell_later hbr q4
      clear q2 q3 q4 hbr
      cases hv : body.all (stmtB d) with
      | false =>
        rw [hv] at HS1
        have HF := Lib.hid (show false = R by rw [HOJ.out, hv]; rfl)
        clear hv
        go_wp2_with fail
        refine HS1.out.mono ?_
        rintro e w5 ⟨rfl, hb5⟩
        have HB5 := Lib.hid (HBr.out.trans (hb5.mono HBr.out.size))
        clear hb5 r3 r4
        go_wp2
        go_ret
        exact ⟨ret_bool HF.out, HB5.out⟩
      | true =>
        rw [hv] at HS1
        have HT := Lib.hid (show els.all (stmtB d) = R by rw [HOJ.out, hv]; rfl)
        clear hv
        go_wp2_with fail
        refine HS1.out.mono ?_
        rintro e w5 ⟨rfl, hb5⟩
        have hb6 := HG.out.1.trans (hb5.mono HG.out.1.size)
        have HB5 := Lib.hid (HBr.out.trans (hb5.mono HBr.out.size))
        have k4 := cell_later hb5 r4
        have HS2 := Lib.hid (blockOk_any D HL.out.2.1 d S ea ec els w5 (by have := HL.out.2.2; omega) (HB4.out.2.2.2.2.1.later hb6) (HB4.out.2.2.2.2.2.later hb6) (HB4.out.2.2.2.1.below (stmtP_stays D) hb6) (by have := HL.out.1; omega))
        rw [HT.out] at HS2
        clear hb5 hb6 r3 r4
        go_wp2_with fail
        refine HS2.out.mono ?_
        rintro e w6 ⟨rfl, hb6⟩
        have HB6 := Lib.hid (HB5.out.trans (hb6.mono HB5.out.size))
        clear hb6 k4
        go_wp2
        go_ret
        exact ⟨rfl, HB6.out⟩
  theorem stmtOk_any : ∀ D, StmtIV D
    | 0 => fun _ _ _ _ _ _ _ _ h => h.elim
    | D + 1 => stmtOk_step D (stmtOk_any D)

end Go.Proofs.YtccdmgncjlpebaaDoor
