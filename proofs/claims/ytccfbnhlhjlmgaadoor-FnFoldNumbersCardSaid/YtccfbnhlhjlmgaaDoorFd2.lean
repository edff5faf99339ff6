
/-
  Folding (the program's): a part whose Kids have been folded.
-/
import Derived.Test.YtccfbnhlhjlmgaaDoorFd
import Derived.Test.YtccfbnhlhjlmgaaDoorPe4
namespace Go.Proofs.YtccfbnhlhjlmgaaDoor
open Go.RowKit
set_option linter.unusedVariables false

theorem fold_shape {m : Nat} {x : ExprD} (hs : sizeD nameD m x ≠ none) (h0 : x.kids ≠ []) (h12 : x.op ≠ 12) (h13 : x.op ≠ 13) : (x.op = 11 ∧ ∃ a, x.kids = [a]) ∨ (x.op ≠ 11 ∧ ∃ a b, x.kids = [a, b]) := by
  obtain ⟨m', _, hh, _⟩ := size_parts hs
  have hl : x.kids.length ≠ 0 := fun h => h0 (List.length_eq_zero_iff.1 h)
  unfold headB at hh
  split at hh
  · simp only [Bool.and_eq_true, beq_iff_eq] at hh; exact absurd hh.2.2 hl
  split at hh
  · simp only [Bool.and_eq_true, beq_iff_eq] at hh; exact absurd hh.2.2 hl
  split at hh
  · rename_i h
    simp only [Bool.and_eq_true, beq_iff_eq] at hh
    refine .inr ⟨fun e => by rw [e] at h; exact absurd h (by decide), ?_⟩
    obtain ⟨op, n, name, kids⟩ := x
    match kids, hh.2.2 with
    | [a, b], _ => exact ⟨a, b, rfl⟩
  split at hh
  · rename_i h
    simp only [Bool.and_eq_true, beq_iff_eq] at hh
    refine .inl ⟨h.resolve_right h12, ?_⟩
    obtain ⟨op, n, name, kids⟩ := x
    match kids, hh.2.2 with
    | [a], _ => exact ⟨a, rfl⟩
  · cases hh

theorem exprP_kids {d : Nat} {S : Nat → Prop} {w : World} {op n : Int} {s : ByteArray} {a : Option Addr} {c : Nat} {x : ExprD} {k : Nat} (h : ExprP (d + 1) S w [.int .i64 op, .int .i64 n, .string s, .slice a k c] x) : ListP (ExprP d S) S w a x.kids := by
  obtain ⟨a', c', h1, _, h3⟩ := h
  simp only [List.cons.injEq, Value.slice.injEq] at h1
  obtain ⟨_, _, _, ⟨rfl, _, _⟩, _⟩ := h1
  exact h3
/-- The part, the result, the first of its Kids and the last, each in a block of its own. -/
structure FP (w : World) (op n : Int) (s : ByteArray) (a b : ExprD) (v : Value) (aa : Option Addr) (ac : Nat) (ba : Option Addr) (bc : Nat) (bA bB : Nat) (wr : World) : Prop where
  two : TwoE w op n s v wr
  rA : wr.heap[bA]? = some (.cells #[.int .i64 a.op, .int .i64 a.n, .string a.name, .slice aa a.kids.length ac] 29 (0, 0))
  rB : wr.heap[bB]? = some (.cells #[.int .i64 b.op, .int .i64 b.n, .string b.name, .slice ba b.kids.length bc] 29 (0, 0))
theorem FP.later {w : World} {op n : Int} {s : ByteArray} {a b : ExprD} {v : Value} {aa : Option Addr} {ac : Nat} {ba : Option Addr} {bc : Nat} {bA bB : Nat} {wr w' : World} (h : FP w op n s a b v aa ac ba bc bA bB wr) (hb : Below wr.heap.size wr w') : FP w op n s a b v aa ac ba bc bA bB w' :=
  ⟨h.two.later hb, (hb.block _ (Array.getElem?_eq_some_iff.1 h.rA).1).trans h.rA, (hb.block _ (Array.getElem?_eq_some_iff.1 h.rB).1).trans h.rB⟩
/-- The answer is laid in the result's block. -/
theorem TwoE.fin {w wr : World} {op n : Int} {s : ByteArray} {v : Value} (h : TwoE w op n s v wr) {S : Nat → Prop} (hS : ∀ k, S k → k < w.heap.size) {d : Nat} {v0 v1 v2 v3 : Value} {y : ExprD} (hx : ExprP d S wr [v0, v1, v2, v3] y) :
    ((((wr.setCell ⟨w.heap.size + 1, 0, none⟩ v0).setCell ⟨w.heap.size + 1, 1, none⟩ v1).setCell ⟨w.heap.size + 1, 2, none⟩ v2).setCell ⟨w.heap.size + 1, 3, none⟩ v3).heap[w.heap.size + 1]? = some (.cells #[v0, v1, v2, v3] 29 (0, 0)) ∧
    ExprP d S ((((wr.setCell ⟨w.heap.size + 1, 0, none⟩ v0).setCell ⟨w.heap.size + 1, 1, none⟩ v1).setCell ⟨w.heap.size + 1, 2, none⟩ v2).setCell ⟨w.heap.size + 1, 3, none⟩ v3) [v0, v1, v2, v3] y ∧
    Below w.heap.size w ((((wr.setCell ⟨w.heap.size + 1, 0, none⟩ v0).setCell ⟨w.heap.size + 1, 1, none⟩ v1).setCell ⟨w.heap.size + 1, 2, none⟩ v2).setCell ⟨w.heap.size + 1, 3, none⟩ v3) := by
  have h1 := h.put (cs := [v0, v1, v2, v3]) rfl
  have h2 := h.done (fun k hk => .inl (hS k hk)) hx
  rw [setCells4'] at h1 h2
  exact ⟨h1, h2.1, h2.2⟩


/-- What may be the answer, as it reads. -/
structure FX (m : Nat) (S : Nat → Prop) (op n : Int) (s : ByteArray) (v : Value) (x a b : ExprD) (aa : Option Addr) (ac : Nat) (ba : Option Addr) (bc : Nat) (wr : World) : Prop where
  ops : OpsAt wr
  keys : KeysAt wr
  x : ExprP m S wr [.int .i64 op, .int .i64 n, .string s, v] x
  a : ExprP m S wr [.int .i64 a.op, .int .i64 a.n, .string a.name, .slice aa a.kids.length ac] a
  b : ExprP m S wr [.int .i64 b.op, .int .i64 b.n, .string b.name, .slice ba b.kids.length bc] b
theorem FX.later {m : Nat} {S : Nat → Prop} {op n : Int} {s : ByteArray} {v : Value} {x a b : ExprD} {aa : Option Addr} {ac : Nat} {ba : Option Addr} {bc : Nat} {wr w' : World} (h : FX m S op n s v x a b aa ac ba bc wr) (hb : Below wr.heap.size wr w') : FX m S op n s v x a b aa ac ba bc w' :=
  ⟨h.ops.later hb, h.keys.later hb, exprP_below hb h.x, exprP_below hb h.a, exprP_below hb h.b⟩
theorem FX.num {m : Nat} {S : Nat → Prop} {wr : World} (hm : m ≠ 0) (k : Int) : ExprP m S wr [.int .i64 1, .int .i64 k, .string ⟨#[]⟩, .slice none 0 0] (numE k) := by
  cases m with
  | zero => exact absurd rfl hm
  | succ m => exact leafP 1 k ⟨#[]⟩ (by decide) m

theorem kid_one {m : Nat} {x : ExprD} (hs : sizeD nameD m x ≠ none) {k : ExprD} (hk : k ∈ x.kids) (h1 : k.op = 11) : k.kids.length = 1 := by
  obtain ⟨m', _, _, h2⟩ := size_parts hs
  obtain ⟨_, _, hh, _⟩ := size_parts (h2 k hk)
  rw [h1] at hh
  exact head_not hh
theorem not_both {x y : Int} (h : x = 1 ∧ y = 1) (hb : ((x == 1) && (y == 1)) = false) : False := by
  rw [h.1, h.2] at hb; cases hb
theorem kid_num {m : Nat} {x : ExprD} (hs : sizeD nameD m x ≠ none) {k : ExprD} (hk : k ∈ x.kids) (h1 : k.op = 1) : 0 ≤ k.n ∧ k.n ≤ 255 := by
  obtain ⟨m', _, _, h2⟩ := size_parts hs
  obtain ⟨_, _, hh, _⟩ := size_parts (h2 k hk)
  rw [h1] at hh
  exact (head_num hh).1
theorem FP.first {w : World} {op n : Int} {s : ByteArray} {x a b : ExprD} {v : Value} {aa : Option Addr} {ac : Nat} {ba : Option Addr} {bc : Nat} {W1 : World} {m : Nat} {S : Nat → Prop} (h : TwoE w op n s v W1) (hx : FX m S op n s v x a b aa ac ba bc W1) :
    FP w op n s a b v aa ac ba bc W1.heap.size (W1.heap.size + 1) ((W1.alloc (.cells #[.int .i64 a.op, .int .i64 a.n, .string a.name, .slice aa a.kids.length ac] 29)).alloc (.cells #[.int .i64 b.op, .int .i64 b.n, .string b.name, .slice ba b.kids.length bc] 29)).drew ∧
    FX m S op n s v x a b aa ac ba bc ((W1.alloc (.cells #[.int .i64 a.op, .int .i64 a.n, .string a.name, .slice aa a.kids.length ac] 29)).alloc (.cells #[.int .i64 b.op, .int .i64 b.n, .string b.name, .slice ba b.kids.length bc] 29)).drew := by
  obtain ⟨h1, h2, h3, h4⟩ := blocks2 W1 (.cells #[.int .i64 a.op, .int .i64 a.n, .string a.name, .slice aa a.kids.length ac] 29) (.cells #[.int .i64 b.op, .int .i64 b.n, .string b.name, .slice ba b.kids.length bc] 29)
  exact ⟨⟨h.later h3.drew, h1, h2⟩, hx.later h3.drew⟩
theorem FP.second {w : World} {op n : Int} {s : ByteArray} {x a b : ExprD} {v : Value} {aa : Option Addr} {ac : Nat} {ba : Option Addr} {bc : Nat} {W1 : World} {m : Nat} {S : Nat → Prop} (h : TwoE w op n s v W1) (hx : FX m S op n s v x a b aa ac ba bc W1) :
    FP w op n s a b v aa ac ba bc (W1.heap.size + 1) W1.heap.size ((W1.alloc (.cells #[.int .i64 b.op, .int .i64 b.n, .string b.name, .slice ba b.kids.length bc] 29)).alloc (.cells #[.int .i64 a.op, .int .i64 a.n, .string a.name, .slice aa a.kids.length ac] 29)).drew ∧
    FX m S op n s v x a b aa ac ba bc ((W1.alloc (.cells #[.int .i64 b.op, .int .i64 b.n, .string b.name, .slice ba b.kids.length bc] 29)).alloc (.cells #[.int .i64 a.op, .int .i64 a.n, .string a.name, .slice aa a.kids.length ac] 29)).drew := by
  obtain ⟨h1, h2, h3, h4⟩ := blocks2 W1 (.cells #[.int .i64 b.op, .int .i64 b.n, .string b.name, .slice ba b.kids.length bc] 29) (.cells #[.int .i64 a.op, .int .i64 a.n, .string a.name, .slice aa a.kids.length ac] 29)
  exact ⟨⟨h.later h3.drew, h2, h1⟩, hx.later h3.drew⟩


set_option maxRecDepth 100000 in
set_option maxHeartbeats 8000000 in
theorem foldPart_any (m : Nat) (S : Nat → Prop) (cs : List Value) (x : ExprD) (w : World) (hO : OpsAt w) (hK : KeysAt w) (hs : sizeD nameD m x ≠ none) (hx : ExprP m S w cs x) (hS : ∀ k, S k → k < w.heap.size) :
    Calls Tryd.prog 138 #[.agg cs.toArray] w fun e w' => ∃ cs', e = .returned (.agg (List.toArray cs')) ∧ ExprP m S w' cs' (partF x) ∧ Below w.heap.size w w' := by
  obtain ⟨xa, xc, rfl⟩ := exprP_form hx
  obtain ⟨R, hR⟩ : ∃ R, R = partF x := ⟨_, rfl⟩
  rw [← hR]
  have HR := Lib.hid hR
  have HT := Lib.hid (TwoE.start w x.op x.n x.name (.slice xa x.kids.length xc))
  have HS := Lib.hid hS
  have HI := Lib.hid (And.intro hs (And.intro hx (And.intro hO hK)))
  clear hs hx hS hO hK hR
  obtain ⟨op, n, name, kids⟩ := x
  simp only [ExprD.op, ExprD.n, ExprD.name, ExprD.kids] at *
  show Calls _ _ #[.agg #[.int .i64 op, .int .i64 n, .string name, .slice xa kids.length xc]] w _
  go_enter Tryd.func138, Tryd.ntmps138
  go_upto_region 1 with fail
  generalize (w.alloc (.cells #[.int .i64 op, .int .i64 n, .string name, .slice xa kids.length xc] 29)).alloc (.cells #[.int .i64 0, .int .i64 0, .string ⟨#[]⟩, .slice none 0 0] 29) = W1 at HT ⊢
  have HW := Lib.hid (And.intro (exprP_below HT.out.below HI.out.2.1) (And.intro (HI.out.2.2.1.later HT.out.below) (HI.out.2.2.2.later HT.out.below)))
  have p0 := HT.out.p0
  have p1 := HT.out.p1
  have p2 := HT.out.p2
  have p3 := HT.out.p3
  by_cases hbare : kids.length = 0 ∨ op = 13 ∨ op = 12
  · have HZ := Lib.hid (HT.out.fin HS.out HW.out.1)
    have HQ := Lib.hid (show R = .mk op n name kids by rw [HR.out, partF]; exact if_pos hbare)
    have z0 := HT.out.z0
    have z1 := HT.out.z1
    have z2 := HT.out.z2
    have z3 := HT.out.z3
    have f0 := HT.out.zf 0
    have f1 := HT.out.zf 1
    have f2 := HT.out.zf 2
    have f3 := HT.out.zf 3
    cases hl : ((kids.length : Int) == 0) with
    | true =>
      clear hbare
      go_wp2
      refine bodyPost_ret (results_cell_row rfl _ _ (w.heap.size + 1) 29 _ (0, 0) _ rfl HZ.out.1 Tryd.underlying29 rfl (by kernel_rfl)) rfl ?_
      exact ⟨[_, _, _, _], rfl, by rw [HQ.out]; exact HZ.out.2.1, HZ.out.2.2⟩
    | false =>
      have hl0 : ¬ kids.length = 0 := by simpa using hl
      cases h13 : (op == 13) with
      | true =>
        clear hbare hl0
        go_wp2
        refine bodyPost_ret (results_cell_row rfl _ _ (w.heap.size + 1) 29 _ (0, 0) _ rfl HZ.out.1 Tryd.underlying29 rfl (by kernel_rfl)) rfl ?_
        exact ⟨[_, _, _, _], rfl, by rw [HQ.out]; exact HZ.out.2.1, HZ.out.2.2⟩
      | false =>
        have h12 : (op == 12) = true := by
          rcases hbare with h | h | h
          · exact absurd h hl0
          · rw [h] at h13; cases h13
          · simpa using h
        clear hbare hl0
        go_wp2
        refine bodyPost_ret (results_cell_row rfl _ _ (w.heap.size + 1) 29 _ (0, 0) _ rfl HZ.out.1 Tryd.underlying29 rfl (by kernel_rfl)) rfl ?_
        exact ⟨[_, _, _, _], rfl, by rw [HQ.out]; exact HZ.out.2.1, HZ.out.2.2⟩
  · have hl : ((kids.length : Int) == 0) = false := by simpa using fun h => hbare (.inl h)
    have h13 : (op == 13) = false := by simpa using fun h => hbare (.inr (.inl h))
    have h12 : (op == 12) = false := by simpa using fun h => hbare (.inr (.inr h))
    have hsh := fold_shape HI.out.1 (fun h => hbare (.inl (by show kids.length = 0; rw [show kids = [] from h]; rfl))) (fun h => hbare (.inr (.inr h))) (fun h => hbare (.inr (.inl h)))
    have HRF := Lib.hid (show R = (match foldNum (.mk op n name kids) with | some n => numE n | none => partG (.mk op n name kids)) by rw [HR.out, partF]; exact if_neg hbare)
    have HSH := Lib.hid hsh
    clear hsh hbare
    go_upto_region 3 with fail
    clear hl h13 h12
    obtain ⟨m, rfl⟩ : ∃ m', m = m' + 1 := by
      obtain ⟨m', h, _⟩ := size_parts HI.out.1
      exact ⟨m', h⟩
    have HLP := Lib.hid (exprP_kids HW.out.1)
    rcases HSH.out with ⟨h11, a, hka⟩ | ⟨h11, a, b, hkab⟩
    · obtain rfl : op = 11 := h11
      obtain rfl : kids = [a] := hka
      obtain ⟨kb, off, k, ka, kc, rfl, hk, hkR, c0, c1, c2, c3⟩ := listP_place HLP.out (fun _ _ h => exprP_form h) (i := 0) (by show 0 < 1; decide)
      obtain rfl : a = k := Option.some.inj hk
      rw [Nat.zero_mul, Nat.add_zero] at c0 c1 c2 c3
      have p3 : W1.cell? ⟨w.heap.size, 3, none⟩ = some (.slice (some ⟨kb, off, none⟩) 1 xc) := HT.out.p3
      have HFX := Lib.hid (show FX (m + 1) S 11 n name (.slice (some ⟨kb, off, none⟩) 1 xc) (.mk 11 n name [a]) a a ka kc ka kc W1 from ⟨HW.out.2.1, HW.out.2.2, HW.out.1, exprP_more hkR, exprP_more hkR⟩)
      have HN := Lib.hid (show (a.op = 1 → 0 ≤ a.n ∧ a.n ≤ 255) ∧ (a.op = 1 → 0 ≤ a.n ∧ a.n ≤ 255) from ⟨kid_num HI.out.1 (show a ∈ [a] by simp), kid_num HI.out.1 (show a ∈ [a] by simp)⟩)
      have HA11 := Lib.hid (show a.op = 11 → a.kids.length = 1 from kid_one HI.out.1 (show a ∈ [a] by simp))
      have HA := Lib.hid (FP.first HT.out HFX.out)
      have HB := Lib.hid (FP.second HT.out HFX.out)
      have hwr : IntKind.i64.wrap 0 = 0 := by kernel_rfl
      clear hk hkR
      go_cut [3, 4] (fun v3 v4 wx => ∃ bA bB, v3 = .pointer (some ⟨bA, 0, none⟩) ∧ v4 = .pointer (some ⟨bB, 0, none⟩) ∧ Hid (FP w 11 n name a a (.slice (some ⟨kb, off, none⟩) 1 xc) ka kc ka kc bA bB wx ∧ FX (m + 1) S 11 n name (.slice (some ⟨kb, off, none⟩) 1 xc) (.mk 11 n name [a]) a a ka kc ka kc wx))
      case first =>
        go_region_held3 (fun W => W.cell? ⟨w.heap.size, 3, none⟩ = some (.slice (some ⟨kb, off, none⟩) 1 xc) ∧ W.cell? ⟨kb, off, none⟩ = some (.int .i64 a.op) ∧ W.cell? ⟨kb, off + 1, none⟩ = some (.int .i64 a.n) ∧ W.cell? ⟨kb, off + 2, none⟩ = some (.string a.name) ∧ W.cell? ⟨kb, off + 3, none⟩ = some (.slice ka a.kids.length kc)) (go_keep) (fail)
        all_goals go_wp2_with fail
        all_goals go_meet
        all_goals first | exact ⟨_, _, rfl, rfl, HA⟩ | exact ⟨_, _, rfl, rfl, HB⟩
      case rest =>
        obtain ⟨bA, bB, rfl, rfl, HFF⟩ := hcut
        have HF := Lib.hid HFF.out.1
        have HX := Lib.hid HFF.out.2
        clear HFF HA HB HFX p0 p1 p2 p3 c0 c1 c2 c3
        have p0 := HF.out.two.p0; have p1 := HF.out.two.p1; have p2 := HF.out.two.p2; have p3 := HF.out.two.p3
        have z0 := HF.out.two.z0; have z1 := HF.out.two.z1; have z2 := HF.out.two.z2; have z3 := HF.out.two.z3
        have f0 := HF.out.two.zf 0; have f1 := HF.out.two.zf 1; have f2 := HF.out.two.zf 2; have f3 := HF.out.two.zf 3
        have a0 := cell_of_row _ _ 0 _ _ _ HF.out.rA; have a1 := cell_of_row _ _ 1 _ _ _ HF.out.rA; have a2 := cell_of_row _ _ 2 _ _ _ HF.out.rA; have a3 := cell_of_row _ _ 3 _ _ _ HF.out.rA
        have b0 := cell_of_row _ _ 0 _ _ _ HF.out.rB; have b1 := cell_of_row _ _ 1 _ _ _ HF.out.rB; have b2 := cell_of_row _ _ 2 _ _ _ HF.out.rB; have b3 := cell_of_row _ _ 3 _ _ _ HF.out.rB
        simp only [List.getElem?_toArray, List.getElem?_cons_zero, List.getElem?_cons_succ] at a0 a1 a2 a3 b0 b1 b2 b3
        go_upto_region 4 with fail
        go_cut [41] (fun v wx => wx = wc ∧ v = .bool ((a.op == 1) && (a.op == 1)))
        case first =>
          cases ta : (a.op == 1) with
          | false =>
            go_wp2_with fail
            go_meet
            exact ⟨rfl, by rw [ta]; rfl⟩
          | true =>
            go_wp2_with fail
            go_meet
            exact ⟨rfl, by rw [ta]; rfl⟩
        case rest =>
          obtain ⟨rfl, rfl⟩ := hcut
          go_upto_if 41 with fail
          go_cut [5] (fun v wx => wx = wc ∧ Hid (foldNum (.mk 11 n name [a]) = none))
          case first =>
            cases hbb : ((a.op == 1) && (a.op == 1)) with
            | true =>
              have hab : a.op = 1 ∧ a.op = 1 := by simpa using hbb
              have HAR := Lib.hid (arith_any 11 a.n a.n (HN.out.1 hab.1) (HN.out.2 hab.2) wc)
              have HFO := Lib.hid (show foldNum (.mk 11 n name [a]) = arithD 11 a.n a.n by rw [foldNum]; exact if_pos hab)
              clear hab hbb
              cases har : arithD 11 a.n a.n with
              | none =>
                rw [har] at HAR HFO
                clear har
                go_wp2_with fail
                refine HAR.out.mono ?_
                rintro e w4 ⟨he, rfl⟩
                obtain rfl : e = .returned (.tuple #[.int .i64 0, .bool false]) := he
                go_wp2
                go_meet
                exact ⟨rfl, HFO⟩
              | some r =>
                rw [har] at HAR HFO
                clear har
                go_wp2_with fail
                refine HAR.out.mono ?_
                rintro e w4 ⟨he, rfl⟩
                obtain rfl : e = .returned (.tuple #[.int .i64 r, .bool true]) := he
                go_wp2_with fail
                refine (numExpr_any r _).mono ?_
                rintro e w4 ⟨rfl, hb⟩
                clear p0 p1 p2 p3 z0 z1 z2 z3 f0 f1 f2 f3 a0 a1 a2 a3 b0 b1 b2 b3
                replace HX := Lib.hid (HX.out.later hb)
                replace HF := Lib.hid (HF.out.later hb)
                clear hb
                have p0 := HF.out.two.p0; have p1 := HF.out.two.p1; have p2 := HF.out.two.p2; have p3 := HF.out.two.p3
                have z0 := HF.out.two.z0; have z1 := HF.out.two.z1; have z2 := HF.out.two.z2; have z3 := HF.out.two.z3
                have f0 := HF.out.two.zf 0; have f1 := HF.out.two.zf 1; have f2 := HF.out.two.zf 2; have f3 := HF.out.two.zf 3
                have a0 := cell_of_row _ _ 0 _ _ _ HF.out.rA; have a1 := cell_of_row _ _ 1 _ _ _ HF.out.rA; have a2 := cell_of_row _ _ 2 _ _ _ HF.out.rA; have a3 := cell_of_row _ _ 3 _ _ _ HF.out.rA
                have b0 := cell_of_row _ _ 0 _ _ _ HF.out.rB; have b1 := cell_of_row _ _ 1 _ _ _ HF.out.rB; have b2 := cell_of_row _ _ 2 _ _ _ HF.out.rB; have b3 := cell_of_row _ _ 3 _ _ _ HF.out.rB
                simp only [List.getElem?_toArray, List.getElem?_cons_zero, List.getElem?_cons_succ] at a0 a1 a2 a3 b0 b1 b2 b3
                have HZ := Lib.hid (HF.out.two.fin HS.out (FX.num (Nat.succ_ne_zero m) r))
                have HQ := Lib.hid (show R = _ from HRF.out.trans (by rw [HFO.out]))
                go_wp2
                refine bodyPost_ret (results_cell_row rfl _ _ (w.heap.size + 1) 29 _ (0, 0) _ rfl HZ.out.1 Tryd.underlying29 rfl (by kernel_rfl)) rfl ?_
                exact ⟨[_, _, _, _], rfl, by rw [HQ.out]; exact HZ.out.2.1, HZ.out.2.2⟩
            | false =>
              have HFO := Lib.hid (show foldNum (.mk 11 n name [a]) = none by rw [foldNum]; exact if_neg (fun h => not_both h hbb))
              clear hbb
              go_wp2
              go_meet
              exact ⟨rfl, HFO⟩
          case rest =>
            obtain ⟨rfl, HNO⟩ := hcut
            have HG := Lib.hid (show R = (if a.op = 11 ∧ (a.kids.getD 0 default).op = 11 then a.kids.getD 0 default else .mk 11 n name [a]) from (show R = partG (.mk 11 n name [a]) by rw [HRF.out, HNO.out]))
            clear HNO HRF
            by_cases h11 : a.op = 11
            · have hl1 : a.kids.length = 1 := HA11.out h11
              obtain ⟨jb, joff, j, ja, jc, rfl, hj, hjR, j0, j1, j2, j3⟩ := listP_place (exprP_kids HX.out.a) (fun _ _ h => exprP_form h) (i := 0) (by rw [hl1]; decide)
              have hjd : a.kids.getD 0 default = j := by rw [List.getD_eq_getElem?_getD, hj]; rfl
              rw [Nat.zero_mul, Nat.add_zero] at j0 j1 j2 j3
              rw [hjd] at HG
              rw [hl1] at a3
              rw [h11] at a0
              have HJ := Lib.hid (exprP_more hjR)
              clear hj hjR hjd hl1
              by_cases hj11 : j.op = 11
              · have HGT := Lib.hid (HG.out.trans (if_pos ⟨h11, hj11⟩))
                rw [hj11] at j0 HJ
                clear h11 hj11
                have HZ := Lib.hid (HF.out.two.fin HS.out HJ.out)
                have HQ := Lib.hid (show R = _ from HGT.out)
                go_wp2
                refine bodyPost_ret (results_cell_row rfl _ _ (w.heap.size + 1) 29 _ (0, 0) _ rfl HZ.out.1 Tryd.underlying29 rfl (by kernel_rfl)) rfl ?_
                exact ⟨[_, _, _, _], rfl, by rw [HQ.out]; exact HZ.out.2.1, HZ.out.2.2⟩
              · have HGT := Lib.hid (HG.out.trans (if_neg (fun h => hj11 h.2)))
                have tj : (j.op == 11) = false := by simpa using hj11
                clear h11 hj11
                have HZ := Lib.hid (HF.out.two.fin HS.out HX.out.x)
                have HQ := Lib.hid (show R = _ from HGT.out)
                go_wp2
                refine bodyPost_ret (results_cell_row rfl _ _ (w.heap.size + 1) 29 _ (0, 0) _ rfl HZ.out.1 Tryd.underlying29 rfl (by kernel_rfl)) rfl ?_
                exact ⟨[_, _, _, _], rfl, by rw [HQ.out]; exact HZ.out.2.1, HZ.out.2.2⟩
            · have HGT := Lib.hid (HG.out.trans (if_neg (fun h => h11 h.1)))
              have t1 : (a.op == 11) = false := by simpa using h11
              clear h11
              have HZ := Lib.hid (HF.out.two.fin HS.out HX.out.x)
              have HQ := Lib.hid (show R = _ from HGT.out)
              go_wp2
              refine bodyPost_ret (results_cell_row rfl _ _ (w.heap.size + 1) 29 _ (0, 0) _ rfl HZ.out.1 Tryd.underlying29 rfl (by kernel_rfl)) rfl ?_
              exact ⟨[_, _, _, _], rfl, by rw [HQ.out]; exact HZ.out.2.1, HZ.out.2.2⟩
    · replace h11 : op ≠ 11 := h11
      obtain rfl : kids = [a, b] := hkab
      obtain ⟨kb, off, k, ka, kc, rfl, hk, hkR, c0, c1, c2, c3⟩ := listP_place HLP.out (fun _ _ h => exprP_form h) (i := 0) (by show 0 < 2; decide)
      obtain rfl : a = k := Option.some.inj hk
      obtain ⟨kb', off', k, qa, qc, hq, hk', hqR, d0, d1, d2, d3⟩ := listP_place HLP.out (fun _ _ h => exprP_form h) (i := 1) (by show 1 < 2; decide)
      obtain rfl : b = k := Option.some.inj hk'
      cases hq
      rw [Nat.zero_mul, Nat.add_zero] at c0 c1 c2 c3
      rw [Nat.one_mul] at d0 d1 d2 d3
      have p3 : W1.cell? ⟨w.heap.size, 3, none⟩ = some (.slice (some ⟨kb, off, none⟩) 2 xc) := HT.out.p3
      have HFX := Lib.hid (show FX (m + 1) S op n name (.slice (some ⟨kb, off, none⟩) 2 xc) (.mk op n name [a, b]) a b ka kc qa qc W1 from ⟨HW.out.2.1, HW.out.2.2, HW.out.1, exprP_more hkR, exprP_more hqR⟩)
      have HN := Lib.hid (show (a.op = 1 → 0 ≤ a.n ∧ a.n ≤ 255) ∧ (b.op = 1 → 0 ≤ b.n ∧ b.n ≤ 255) from ⟨kid_num HI.out.1 (show a ∈ [a, b] by simp), kid_num HI.out.1 (show b ∈ [a, b] by simp)⟩)
      have HA := Lib.hid (FP.first HT.out HFX.out)
      have HB := Lib.hid (FP.second HT.out HFX.out)
      have hwr : IntKind.i64.wrap 1 = 1 := by kernel_rfl
      clear hk hk' hkR hqR
      go_cut [3, 4] (fun v3 v4 wx => ∃ bA bB, v3 = .pointer (some ⟨bA, 0, none⟩) ∧ v4 = .pointer (some ⟨bB, 0, none⟩) ∧ Hid (FP w op n name a b (.slice (some ⟨kb, off, none⟩) 2 xc) ka kc qa qc bA bB wx ∧ FX (m + 1) S op n name (.slice (some ⟨kb, off, none⟩) 2 xc) (.mk op n name [a, b]) a b ka kc qa qc wx))
      case first =>
        go_region_held3 (fun W => W.cell? ⟨w.heap.size, 3, none⟩ = some (.slice (some ⟨kb, off, none⟩) 2 xc) ∧ W.cell? ⟨kb, off, none⟩ = some (.int .i64 a.op) ∧ W.cell? ⟨kb, off + 1, none⟩ = some (.int .i64 a.n) ∧ W.cell? ⟨kb, off + 2, none⟩ = some (.string a.name) ∧ W.cell? ⟨kb, off + 3, none⟩ = some (.slice ka a.kids.length kc) ∧ W.cell? ⟨kb, off + 4, none⟩ = some (.int .i64 b.op) ∧ W.cell? ⟨kb, off + 4 + 1, none⟩ = some (.int .i64 b.n) ∧ W.cell? ⟨kb, off + 4 + 2, none⟩ = some (.string b.name) ∧ W.cell? ⟨kb, off + 4 + 3, none⟩ = some (.slice qa b.kids.length qc)) (go_keep) (fail)
        all_goals go_wp2_with fail
        all_goals go_meet
        all_goals first | exact ⟨_, _, rfl, rfl, HA⟩ | exact ⟨_, _, rfl, rfl, HB⟩
      case rest =>
        obtain ⟨bA, bB, rfl, rfl, HFF⟩ := hcut
        have HF := Lib.hid HFF.out.1
        have HX := Lib.hid HFF.out.2
        clear HFF HA HB HFX p0 p1 p2 p3 c0 c1 c2 c3 d0 d1 d2 d3
        have p0 := HF.out.two.p0; have p1 := HF.out.two.p1; have p2 := HF.out.two.p2; have p3 := HF.out.two.p3
        have z0 := HF.out.two.z0; have z1 := HF.out.two.z1; have z2 := HF.out.two.z2; have z3 := HF.out.two.z3
        have f0 := HF.out.two.zf 0; have f1 := HF.out.two.zf 1; have f2 := HF.out.two.zf 2; have f3 := HF.out.two.zf 3
        have a0 := cell_of_row _ _ 0 _ _ _ HF.out.rA; have a1 := cell_of_row _ _ 1 _ _ _ HF.out.rA; have a2 := cell_of_row _ _ 2 _ _ _ HF.out.rA; have a3 := cell_of_row _ _ 3 _ _ _ HF.out.rA
        have b0 := cell_of_row _ _ 0 _ _ _ HF.out.rB; have b1 := cell_of_row _ _ 1 _ _ _ HF.out.rB; have b2 := cell_of_row _ _ 2 _ _ _ HF.out.rB; have b3 := cell_of_row _ _ 3 _ _ _ HF.out.rB
        simp only [List.getElem?_toArray, List.getElem?_cons_zero, List.getElem?_cons_succ] at a0 a1 a2 a3 b0 b1 b2 b3
        go_upto_region 4 with fail
        go_cut [41] (fun v wx => wx = wc ∧ v = .bool ((a.op == 1) && (b.op == 1)))
        case first =>
          cases ta : (a.op == 1) with
          | false =>
            go_wp2_with fail
            go_meet
            exact ⟨rfl, by rw [ta]; rfl⟩
          | true =>
            cases tb : (b.op == 1) with
            | false =>
              go_wp2_with fail
              go_meet
              exact ⟨rfl, by rw [ta, tb]; rfl⟩
            | true =>
              go_wp2_with fail
              go_meet
              exact ⟨rfl, by rw [ta, tb]; rfl⟩
        case rest =>
          obtain ⟨rfl, rfl⟩ := hcut
          go_upto_if 41 with fail
          go_cut [5] (fun v wx => wx = wc ∧ Hid (foldNum (.mk op n name [a, b]) = none))
          case first =>
            cases hbb : ((a.op == 1) && (b.op == 1)) with
            | true =>
              have hab : a.op = 1 ∧ b.op = 1 := by simpa using hbb
              have HAR := Lib.hid (arith_any op a.n b.n (HN.out.1 hab.1) (HN.out.2 hab.2) wc)
              have HFO := Lib.hid (show foldNum (.mk op n name [a, b]) = arithD op a.n b.n by rw [foldNum]; exact if_pos hab)
              clear hab hbb
              cases har : arithD op a.n b.n with
              | none =>
                rw [har] at HAR HFO
                clear har
                go_wp2_with fail
                refine HAR.out.mono ?_
                rintro e w4 ⟨he, rfl⟩
                obtain rfl : e = .returned (.tuple #[.int .i64 0, .bool false]) := he
                go_wp2
                go_meet
                exact ⟨rfl, HFO⟩
              | some r =>
                rw [har] at HAR HFO
                clear har
                go_wp2_with fail
                refine HAR.out.mono ?_
                rintro e w4 ⟨he, rfl⟩
                obtain rfl : e = .returned (.tuple #[.int .i64 r, .bool true]) := he
                go_wp2_with fail
                refine (numExpr_any r _).mono ?_
                rintro e w4 ⟨rfl, hb⟩
                clear p0 p1 p2 p3 z0 z1 z2 z3 f0 f1 f2 f3 a0 a1 a2 a3 b0 b1 b2 b3
                replace HX := Lib.hid (HX.out.later hb)
                replace HF := Lib.hid (HF.out.later hb)
                clear hb
                have p0 := HF.out.two.p0; have p1 := HF.out.two.p1; have p2 := HF.out.two.p2; have p3 := HF.out.two.p3
                have z0 := HF.out.two.z0; have z1 := HF.out.two.z1; have z2 := HF.out.two.z2; have z3 := HF.out.two.z3
                have f0 := HF.out.two.zf 0; have f1 := HF.out.two.zf 1; have f2 := HF.out.two.zf 2; have f3 := HF.out.two.zf 3
                have a0 := cell_of_row _ _ 0 _ _ _ HF.out.rA; have a1 := cell_of_row _ _ 1 _ _ _ HF.out.rA; have a2 := cell_of_row _ _ 2 _ _ _ HF.out.rA; have a3 := cell_of_row _ _ 3 _ _ _ HF.out.rA
                have b0 := cell_of_row _ _ 0 _ _ _ HF.out.rB; have b1 := cell_of_row _ _ 1 _ _ _ HF.out.rB; have b2 := cell_of_row _ _ 2 _ _ _ HF.out.rB; have b3 := cell_of_row _ _ 3 _ _ _ HF.out.rB
                simp only [List.getElem?_toArray, List.getElem?_cons_zero, List.getElem?_cons_succ] at a0 a1 a2 a3 b0 b1 b2 b3
                have HZ := Lib.hid (HF.out.two.fin HS.out (FX.num (Nat.succ_ne_zero m) r))
                have HQ := Lib.hid (show R = _ from HRF.out.trans (by rw [HFO.out]))
                go_wp2
                refine bodyPost_ret (results_cell_row rfl _ _ (w.heap.size + 1) 29 _ (0, 0) _ rfl HZ.out.1 Tryd.underlying29 rfl (by kernel_rfl)) rfl ?_
                exact ⟨[_, _, _, _], rfl, by rw [HQ.out]; exact HZ.out.2.1, HZ.out.2.2⟩
            | false =>
              have HFO := Lib.hid (show foldNum (.mk op n name [a, b]) = none by rw [foldNum]; exact if_neg (fun h => not_both h hbb))
              clear hbb
              go_wp2
              go_meet
              exact ⟨rfl, HFO⟩
          case rest =>
            obtain ⟨rfl, HNO⟩ := hcut
            have HG := Lib.hid (show R = partG (.mk op n name [a, b]) by rw [HRF.out, HNO.out])
            clear HNO HRF HN
            have t11 : (op == 11) = false := by simpa using h11
            by_cases h10 : op = 10
            · obtain rfl : op = 10 := h10
              have HG := Lib.hid (show R = (if isNumB a 0 = true then numE 0 else .mk 10 n name [a, b]) from HG.out)
              clear h11
              cases hn : isNumB a 0 with
              | true =>
                have HE := Lib.hid (show ((a.op == 1) && (a.n == 0)) = true from hn)
                have HGT := Lib.hid HG.out
                rw [hn] at HGT
                clear hn
                go_wp2_with fail
                refine (isNum_any _ _ _ _ _ _ true HE.out.symm).mono ?_
                rintro e w4 ⟨rfl, hb⟩
                clear p0 p1 p2 p3 z0 z1 z2 z3 f0 f1 f2 f3 a0 a1 a2 a3 b0 b1 b2 b3
                replace HX := Lib.hid (HX.out.later hb)
                replace HF := Lib.hid (HF.out.later hb)
                clear hb
                have p0 := HF.out.two.p0; have p1 := HF.out.two.p1; have p2 := HF.out.two.p2; have p3 := HF.out.two.p3
                have z0 := HF.out.two.z0; have z1 := HF.out.two.z1; have z2 := HF.out.two.z2; have z3 := HF.out.two.z3
                have f0 := HF.out.two.zf 0; have f1 := HF.out.two.zf 1; have f2 := HF.out.two.zf 2; have f3 := HF.out.two.zf 3
                have a0 := cell_of_row _ _ 0 _ _ _ HF.out.rA; have a1 := cell_of_row _ _ 1 _ _ _ HF.out.rA; have a2 := cell_of_row _ _ 2 _ _ _ HF.out.rA; have a3 := cell_of_row _ _ 3 _ _ _ HF.out.rA
                have b0 := cell_of_row _ _ 0 _ _ _ HF.out.rB; have b1 := cell_of_row _ _ 1 _ _ _ HF.out.rB; have b2 := cell_of_row _ _ 2 _ _ _ HF.out.rB; have b3 := cell_of_row _ _ 3 _ _ _ HF.out.rB
                simp only [List.getElem?_toArray, List.getElem?_cons_zero, List.getElem?_cons_succ] at a0 a1 a2 a3 b0 b1 b2 b3
                go_wp2_with fail
                refine (numExpr_any 0 _).mono ?_
                rintro e w4 ⟨rfl, hb⟩
                clear p0 p1 p2 p3 z0 z1 z2 z3 f0 f1 f2 f3 a0 a1 a2 a3 b0 b1 b2 b3
                replace HX := Lib.hid (HX.out.later hb)
                replace HF := Lib.hid (HF.out.later hb)
                clear hb
                have p0 := HF.out.two.p0; have p1 := HF.out.two.p1; have p2 := HF.out.two.p2; have p3 := HF.out.two.p3
                have z0 := HF.out.two.z0; have z1 := HF.out.two.z1; have z2 := HF.out.two.z2; have z3 := HF.out.two.z3
                have f0 := HF.out.two.zf 0; have f1 := HF.out.two.zf 1; have f2 := HF.out.two.zf 2; have f3 := HF.out.two.zf 3
                have a0 := cell_of_row _ _ 0 _ _ _ HF.out.rA; have a1 := cell_of_row _ _ 1 _ _ _ HF.out.rA; have a2 := cell_of_row _ _ 2 _ _ _ HF.out.rA; have a3 := cell_of_row _ _ 3 _ _ _ HF.out.rA
                have b0 := cell_of_row _ _ 0 _ _ _ HF.out.rB; have b1 := cell_of_row _ _ 1 _ _ _ HF.out.rB; have b2 := cell_of_row _ _ 2 _ _ _ HF.out.rB; have b3 := cell_of_row _ _ 3 _ _ _ HF.out.rB
                simp only [List.getElem?_toArray, List.getElem?_cons_zero, List.getElem?_cons_succ] at a0 a1 a2 a3 b0 b1 b2 b3
                have HZ := Lib.hid (HF.out.two.fin HS.out (FX.num (Nat.succ_ne_zero m) 0))
                have HQ := Lib.hid (show R = _ from HGT.out)
                go_wp2
                refine bodyPost_ret (results_cell_row rfl _ _ (w.heap.size + 1) 29 _ (0, 0) _ rfl HZ.out.1 Tryd.underlying29 rfl (by kernel_rfl)) rfl ?_
                exact ⟨[_, _, _, _], rfl, by rw [HQ.out]; exact HZ.out.2.1, HZ.out.2.2⟩
              | false =>
                have HE := Lib.hid (show ((a.op == 1) && (a.n == 0)) = false from hn)
                have HG := Lib.hid HG.out
                rw [hn] at HG
                clear hn
                go_wp2_with fail
                refine (isNum_any _ _ _ _ _ _ false HE.out.symm).mono ?_
                rintro e w4 ⟨rfl, hb⟩
                clear p0 p1 p2 p3 z0 z1 z2 z3 f0 f1 f2 f3 a0 a1 a2 a3 b0 b1 b2 b3
                replace HX := Lib.hid (HX.out.later hb)
                replace HF := Lib.hid (HF.out.later hb)
                clear hb
                have p0 := HF.out.two.p0; have p1 := HF.out.two.p1; have p2 := HF.out.two.p2; have p3 := HF.out.two.p3
                have z0 := HF.out.two.z0; have z1 := HF.out.two.z1; have z2 := HF.out.two.z2; have z3 := HF.out.two.z3
                have f0 := HF.out.two.zf 0; have f1 := HF.out.two.zf 1; have f2 := HF.out.two.zf 2; have f3 := HF.out.two.zf 3
                have a0 := cell_of_row _ _ 0 _ _ _ HF.out.rA; have a1 := cell_of_row _ _ 1 _ _ _ HF.out.rA; have a2 := cell_of_row _ _ 2 _ _ _ HF.out.rA; have a3 := cell_of_row _ _ 3 _ _ _ HF.out.rA
                have b0 := cell_of_row _ _ 0 _ _ _ HF.out.rB; have b1 := cell_of_row _ _ 1 _ _ _ HF.out.rB; have b2 := cell_of_row _ _ 2 _ _ _ HF.out.rB; have b3 := cell_of_row _ _ 3 _ _ _ HF.out.rB
                simp only [List.getElem?_toArray, List.getElem?_cons_zero, List.getElem?_cons_succ] at a0 a1 a2 a3 b0 b1 b2 b3
                have HZ := Lib.hid (HF.out.two.fin HS.out HX.out.x)
                have HQ := Lib.hid (show R = _ from HG.out)
                go_wp2
                refine bodyPost_ret (results_cell_row rfl _ _ (w.heap.size + 1) 29 _ (0, 0) _ rfl HZ.out.1 Tryd.underlying29 rfl (by kernel_rfl)) rfl ?_
                exact ⟨[_, _, _, _], rfl, by rw [HQ.out]; exact HZ.out.2.1, HZ.out.2.2⟩
            have t10 : (op == 10) = false := by simpa using h10
            by_cases h3 : op = 3
            · obtain rfl : op = 3 := h3
              have HG := Lib.hid (show R = (if isNumB b 0 = true then a else if isNumB a 0 = true then b else .mk 3 n name [a, b]) from HG.out)
              clear h11
              cases hn : isNumB b 0 with
              | true =>
                have HE := Lib.hid (show ((b.op == 1) && (b.n == 0)) = true from hn)
                have HGT := Lib.hid HG.out
                rw [hn] at HGT
                clear hn
                go_wp2_with fail
                refine (isNum_any _ _ _ _ _ _ true HE.out.symm).mono ?_
                rintro e w4 ⟨rfl, hb⟩
                clear p0 p1 p2 p3 z0 z1 z2 z3 f0 f1 f2 f3 a0 a1 a2 a3 b0 b1 b2 b3
                replace HX := Lib.hid (HX.out.later hb)
                replace HF := Lib.hid (HF.out.later hb)
                clear hb
                have p0 := HF.out.two.p0; have p1 := HF.out.two.p1; have p2 := HF.out.two.p2; have p3 := HF.out.two.p3
                have z0 := HF.out.two.z0; have z1 := HF.out.two.z1; have z2 := HF.out.two.z2; have z3 := HF.out.two.z3
                have f0 := HF.out.two.zf 0; have f1 := HF.out.two.zf 1; have f2 := HF.out.two.zf 2; have f3 := HF.out.two.zf 3
                have a0 := cell_of_row _ _ 0 _ _ _ HF.out.rA; have a1 := cell_of_row _ _ 1 _ _ _ HF.out.rA; have a2 := cell_of_row _ _ 2 _ _ _ HF.out.rA; have a3 := cell_of_row _ _ 3 _ _ _ HF.out.rA
                have b0 := cell_of_row _ _ 0 _ _ _ HF.out.rB; have b1 := cell_of_row _ _ 1 _ _ _ HF.out.rB; have b2 := cell_of_row _ _ 2 _ _ _ HF.out.rB; have b3 := cell_of_row _ _ 3 _ _ _ HF.out.rB
                simp only [List.getElem?_toArray, List.getElem?_cons_zero, List.getElem?_cons_succ] at a0 a1 a2 a3 b0 b1 b2 b3
                have HZ := Lib.hid (HF.out.two.fin HS.out HX.out.a)
                have HQ := Lib.hid (show R = _ from HGT.out)
                go_wp2
                refine bodyPost_ret (results_cell_row rfl _ _ (w.heap.size + 1) 29 _ (0, 0) _ rfl HZ.out.1 Tryd.underlying29 rfl (by kernel_rfl)) rfl ?_
                exact ⟨[_, _, _, _], rfl, by rw [HQ.out]; exact HZ.out.2.1, HZ.out.2.2⟩
              | false =>
                have HE := Lib.hid (show ((b.op == 1) && (b.n == 0)) = false from hn)
                have HG := Lib.hid HG.out
                rw [hn] at HG
                clear hn
                go_wp2_with fail
                refine (isNum_any _ _ _ _ _ _ false HE.out.symm).mono ?_
                rintro e w4 ⟨rfl, hb⟩
                clear p0 p1 p2 p3 z0 z1 z2 z3 f0 f1 f2 f3 a0 a1 a2 a3 b0 b1 b2 b3
                replace HX := Lib.hid (HX.out.later hb)
                replace HF := Lib.hid (HF.out.later hb)
                clear hb
                have p0 := HF.out.two.p0; have p1 := HF.out.two.p1; have p2 := HF.out.two.p2; have p3 := HF.out.two.p3
                have z0 := HF.out.two.z0; have z1 := HF.out.two.z1; have z2 := HF.out.two.z2; have z3 := HF.out.two.z3
                have f0 := HF.out.two.zf 0; have f1 := HF.out.two.zf 1; have f2 := HF.out.two.zf 2; have f3 := HF.out.two.zf 3
                have a0 := cell_of_row _ _ 0 _ _ _ HF.out.rA; have a1 := cell_of_row _ _ 1 _ _ _ HF.out.rA; have a2 := cell_of_row _ _ 2 _ _ _ HF.out.rA; have a3 := cell_of_row _ _ 3 _ _ _ HF.out.rA
                have b0 := cell_of_row _ _ 0 _ _ _ HF.out.rB; have b1 := cell_of_row _ _ 1 _ _ _ HF.out.rB; have b2 := cell_of_row _ _ 2 _ _ _ HF.out.rB; have b3 := cell_of_row _ _ 3 _ _ _ HF.out.rB
                simp only [List.getElem?_toArray, List.getElem?_cons_zero, List.getElem?_cons_succ] at a0 a1 a2 a3 b0 b1 b2 b3
                cases hn : isNumB a 0 with
                | true =>
                  have HE := Lib.hid (show ((a.op == 1) && (a.n == 0)) = true from hn)
                  have HGT := Lib.hid HG.out
                  rw [hn] at HGT
                  clear hn
                  go_wp2_with fail
                  refine (isNum_any _ _ _ _ _ _ true HE.out.symm).mono ?_
                  rintro e w4 ⟨rfl, hb⟩
                  clear p0 p1 p2 p3 z0 z1 z2 z3 f0 f1 f2 f3 a0 a1 a2 a3 b0 b1 b2 b3
                  replace HX := Lib.hid (HX.out.later hb)
                  replace HF := Lib.hid (HF.out.later hb)
                  clear hb
                  have p0 := HF.out.two.p0; have p1 := HF.out.two.p1; have p2 := HF.out.two.p2; have p3 := HF.out.two.p3
                  have z0 := HF.out.two.z0; have z1 := HF.out.two.z1; have z2 := HF.out.two.z2; have z3 := HF.out.two.z3
                  have f0 := HF.out.two.zf 0; have f1 := HF.out.two.zf 1; have f2 := HF.out.two.zf 2; have f3 := HF.out.two.zf 3
                  have a0 := cell_of_row _ _ 0 _ _ _ HF.out.rA; have a1 := cell_of_row _ _ 1 _ _ _ HF.out.rA; have a2 := cell_of_row _ _ 2 _ _ _ HF.out.rA; have a3 := cell_of_row _ _ 3 _ _ _ HF.out.rA
                  have b0 := cell_of_row _ _ 0 _ _ _ HF.out.rB; have b1 := cell_of_row _ _ 1 _ _ _ HF.out.rB; have b2 := cell_of_row _ _ 2 _ _ _ HF.out.rB; have b3 := cell_of_row _ _ 3 _ _ _ HF.out.rB
                  simp only [List.getElem?_toArray, List.getElem?_cons_zero, List.getElem?_cons_succ] at a0 a1 a2 a3 b0 b1 b2 b3
                  have HZ := Lib.hid (HF.out.two.fin HS.out HX.out.b)
                  have HQ := Lib.hid (show R = _ from HGT.out)
                  go_wp2
                  refine bodyPost_ret (results_cell_row rfl _ _ (w.heap.size + 1) 29 _ (0, 0) _ rfl HZ.out.1 Tryd.underlying29 rfl (by kernel_rfl)) rfl ?_
                  exact ⟨[_, _, _, _], rfl, by rw [HQ.out]; exact HZ.out.2.1, HZ.out.2.2⟩
                | false =>
                  have HE := Lib.hid (show ((a.op == 1) && (a.n == 0)) = false from hn)
                  have HG := Lib.hid HG.out
                  rw [hn] at HG
                  clear hn
                  go_wp2_with fail
                  refine (isNum_any _ _ _ _ _ _ false HE.out.symm).mono ?_
                  rintro e w4 ⟨rfl, hb⟩
                  clear p0 p1 p2 p3 z0 z1 z2 z3 f0 f1 f2 f3 a0 a1 a2 a3 b0 b1 b2 b3
                  replace HX := Lib.hid (HX.out.later hb)
                  replace HF := Lib.hid (HF.out.later hb)
                  clear hb
                  have p0 := HF.out.two.p0; have p1 := HF.out.two.p1; have p2 := HF.out.two.p2; have p3 := HF.out.two.p3
                  have z0 := HF.out.two.z0; have z1 := HF.out.two.z1; have z2 := HF.out.two.z2; have z3 := HF.out.two.z3
                  have f0 := HF.out.two.zf 0; have f1 := HF.out.two.zf 1; have f2 := HF.out.two.zf 2; have f3 := HF.out.two.zf 3
                  have a0 := cell_of_row _ _ 0 _ _ _ HF.out.rA; have a1 := cell_of_row _ _ 1 _ _ _ HF.out.rA; have a2 := cell_of_row _ _ 2 _ _ _ HF.out.rA; have a3 := cell_of_row _ _ 3 _ _ _ HF.out.rA
                  have b0 := cell_of_row _ _ 0 _ _ _ HF.out.rB; have b1 := cell_of_row _ _ 1 _ _ _ HF.out.rB; have b2 := cell_of_row _ _ 2 _ _ _ HF.out.rB; have b3 := cell_of_row _ _ 3 _ _ _ HF.out.rB
                  simp only [List.getElem?_toArray, List.getElem?_cons_zero, List.getElem?_cons_succ] at a0 a1 a2 a3 b0 b1 b2 b3
                  have HZ := Lib.hid (HF.out.two.fin HS.out HX.out.x)
                  have HQ := Lib.hid (show R = _ from HG.out)
                  go_wp2
                  refine bodyPost_ret (results_cell_row rfl _ _ (w.heap.size + 1) 29 _ (0, 0) _ rfl HZ.out.1 Tryd.underlying29 rfl (by kernel_rfl)) rfl ?_
                  exact ⟨[_, _, _, _], rfl, by rw [HQ.out]; exact HZ.out.2.1, HZ.out.2.2⟩
            have t3 : (op == 3) = false := by simpa using h3
            by_cases h4 : op = 4
            · obtain rfl : op = 4 := h4
              have HG := Lib.hid (show R = (if isNumB b 0 = true then a else .mk 4 n name [a, b]) from HG.out)
              clear h11
              cases hn : isNumB b 0 with
              | true =>
                have HE := Lib.hid (show ((b.op == 1) && (b.n == 0)) = true from hn)
                have HGT := Lib.hid HG.out
                rw [hn] at HGT
                clear hn
                go_wp2_with fail
                refine (isNum_any _ _ _ _ _ _ true HE.out.symm).mono ?_
                rintro e w4 ⟨rfl, hb⟩
                clear p0 p1 p2 p3 z0 z1 z2 z3 f0 f1 f2 f3 a0 a1 a2 a3 b0 b1 b2 b3
                replace HX := Lib.hid (HX.out.later hb)
                replace HF := Lib.hid (HF.out.later hb)
                clear hb
                have p0 := HF.out.two.p0; have p1 := HF.out.two.p1; have p2 := HF.out.two.p2; have p3 := HF.out.two.p3
                have z0 := HF.out.two.z0; have z1 := HF.out.two.z1; have z2 := HF.out.two.z2; have z3 := HF.out.two.z3
                have f0 := HF.out.two.zf 0; have f1 := HF.out.two.zf 1; have f2 := HF.out.two.zf 2; have f3 := HF.out.two.zf 3
                have a0 := cell_of_row _ _ 0 _ _ _ HF.out.rA; have a1 := cell_of_row _ _ 1 _ _ _ HF.out.rA; have a2 := cell_of_row _ _ 2 _ _ _ HF.out.rA; have a3 := cell_of_row _ _ 3 _ _ _ HF.out.rA
                have b0 := cell_of_row _ _ 0 _ _ _ HF.out.rB; have b1 := cell_of_row _ _ 1 _ _ _ HF.out.rB; have b2 := cell_of_row _ _ 2 _ _ _ HF.out.rB; have b3 := cell_of_row _ _ 3 _ _ _ HF.out.rB
                simp only [List.getElem?_toArray, List.getElem?_cons_zero, List.getElem?_cons_succ] at a0 a1 a2 a3 b0 b1 b2 b3
                have HZ := Lib.hid (HF.out.two.fin HS.out HX.out.a)
                have HQ := Lib.hid (show R = _ from HGT.out)
                go_wp2
                refine bodyPost_ret (results_cell_row rfl _ _ (w.heap.size + 1) 29 _ (0, 0) _ rfl HZ.out.1 Tryd.underlying29 rfl (by kernel_rfl)) rfl ?_
                exact ⟨[_, _, _, _], rfl, by rw [HQ.out]; exact HZ.out.2.1, HZ.out.2.2⟩
              | false =>
                have HE := Lib.hid (show ((b.op == 1) && (b.n == 0)) = false from hn)
                have HG := Lib.hid HG.out
                rw [hn] at HG
                clear hn
                go_wp2_with fail
                refine (isNum_any _ _ _ _ _ _ false HE.out.symm).mono ?_
                rintro e w4 ⟨rfl, hb⟩
                clear p0 p1 p2 p3 z0 z1 z2 z3 f0 f1 f2 f3 a0 a1 a2 a3 b0 b1 b2 b3
                replace HX := Lib.hid (HX.out.later hb)
                replace HF := Lib.hid (HF.out.later hb)
                clear hb
                have p0 := HF.out.two.p0; have p1 := HF.out.two.p1; have p2 := HF.out.two.p2; have p3 := HF.out.two.p3
                have z0 := HF.out.two.z0; have z1 := HF.out.two.z1; have z2 := HF.out.two.z2; have z3 := HF.out.two.z3
                have f0 := HF.out.two.zf 0; have f1 := HF.out.two.zf 1; have f2 := HF.out.two.zf 2; have f3 := HF.out.two.zf 3
                have a0 := cell_of_row _ _ 0 _ _ _ HF.out.rA; have a1 := cell_of_row _ _ 1 _ _ _ HF.out.rA; have a2 := cell_of_row _ _ 2 _ _ _ HF.out.rA; have a3 := cell_of_row _ _ 3 _ _ _ HF.out.rA
                have b0 := cell_of_row _ _ 0 _ _ _ HF.out.rB; have b1 := cell_of_row _ _ 1 _ _ _ HF.out.rB; have b2 := cell_of_row _ _ 2 _ _ _ HF.out.rB; have b3 := cell_of_row _ _ 3 _ _ _ HF.out.rB
                simp only [List.getElem?_toArray, List.getElem?_cons_zero, List.getElem?_cons_succ] at a0 a1 a2 a3 b0 b1 b2 b3
                have HZ := Lib.hid (HF.out.two.fin HS.out HX.out.x)
                have HQ := Lib.hid (show R = _ from HG.out)
                go_wp2
                refine bodyPost_ret (results_cell_row rfl _ _ (w.heap.size + 1) 29 _ (0, 0) _ rfl HZ.out.1 Tryd.underlying29 rfl (by kernel_rfl)) rfl ?_
                exact ⟨[_, _, _, _], rfl, by rw [HQ.out]; exact HZ.out.2.1, HZ.out.2.2⟩
            have t4 : (op == 4) = false := by simpa using h4
            by_cases h5 : op = 5
            · obtain rfl : op = 5 := h5
              have HG := Lib.hid (show R = (if isNumB b 1 = true then a else if isNumB a 1 = true then b else if ((isNumB b 0 && safeD a) || (isNumB a 0 && safeD b)) = true then numE 0 else .mk 5 n name [a, b]) from HG.out)
              clear h11
              cases hn : isNumB b 1 with
              | true =>
                have HE := Lib.hid (show ((b.op == 1) && (b.n == 1)) = true from hn)
                have HGT := Lib.hid HG.out
                rw [hn] at HGT
                clear hn
                go_wp2_with fail
                refine (isNum_any _ _ _ _ _ _ true HE.out.symm).mono ?_
                rintro e w4 ⟨rfl, hb⟩
                clear p0 p1 p2 p3 z0 z1 z2 z3 f0 f1 f2 f3 a0 a1 a2 a3 b0 b1 b2 b3
                replace HX := Lib.hid (HX.out.later hb)
                replace HF := Lib.hid (HF.out.later hb)
                clear hb
                have p0 := HF.out.two.p0; have p1 := HF.out.two.p1; have p2 := HF.out.two.p2; have p3 := HF.out.two.p3
                have z0 := HF.out.two.z0; have z1 := HF.out.two.z1; have z2 := HF.out.two.z2; have z3 := HF.out.two.z3
                have f0 := HF.out.two.zf 0; have f1 := HF.out.two.zf 1; have f2 := HF.out.two.zf 2; have f3 := HF.out.two.zf 3
                have a0 := cell_of_row _ _ 0 _ _ _ HF.out.rA; have a1 := cell_of_row _ _ 1 _ _ _ HF.out.rA; have a2 := cell_of_row _ _ 2 _ _ _ HF.out.rA; have a3 := cell_of_row _ _ 3 _ _ _ HF.out.rA
                have b0 := cell_of_row _ _ 0 _ _ _ HF.out.rB; have b1 := cell_of_row _ _ 1 _ _ _ HF.out.rB; have b2 := cell_of_row _ _ 2 _ _ _ HF.out.rB; have b3 := cell_of_row _ _ 3 _ _ _ HF.out.rB
                simp only [List.getElem?_toArray, List.getElem?_cons_zero, List.getElem?_cons_succ] at a0 a1 a2 a3 b0 b1 b2 b3
                have HZ := Lib.hid (HF.out.two.fin HS.out HX.out.a)
                have HQ := Lib.hid (show R = _ from HGT.out)
                go_wp2
                refine bodyPost_ret (results_cell_row rfl _ _ (w.heap.size + 1) 29 _ (0, 0) _ rfl HZ.out.1 Tryd.underlying29 rfl (by kernel_rfl)) rfl ?_
                exact ⟨[_, _, _, _], rfl, by rw [HQ.out]; exact HZ.out.2.1, HZ.out.2.2⟩
              | false =>
                have HE := Lib.hid (show ((b.op == 1) && (b.n == 1)) = false from hn)
                have HG := Lib.hid HG.out
                rw [hn] at HG
                clear hn
                go_wp2_with fail
                refine (isNum_any _ _ _ _ _ _ false HE.out.symm).mono ?_
                rintro e w4 ⟨rfl, hb⟩
                clear p0 p1 p2 p3 z0 z1 z2 z3 f0 f1 f2 f3 a0 a1 a2 a3 b0 b1 b2 b3
                replace HX := Lib.hid (HX.out.later hb)
                replace HF := Lib.hid (HF.out.later hb)
                clear hb
                have p0 := HF.out.two.p0; have p1 := HF.out.two.p1; have p2 := HF.out.two.p2; have p3 := HF.out.two.p3
                have z0 := HF.out.two.z0; have z1 := HF.out.two.z1; have z2 := HF.out.two.z2; have z3 := HF.out.two.z3
                have f0 := HF.out.two.zf 0; have f1 := HF.out.two.zf 1; have f2 := HF.out.two.zf 2; have f3 := HF.out.two.zf 3
                have a0 := cell_of_row _ _ 0 _ _ _ HF.out.rA; have a1 := cell_of_row _ _ 1 _ _ _ HF.out.rA; have a2 := cell_of_row _ _ 2 _ _ _ HF.out.rA; have a3 := cell_of_row _ _ 3 _ _ _ HF.out.rA
                have b0 := cell_of_row _ _ 0 _ _ _ HF.out.rB; have b1 := cell_of_row _ _ 1 _ _ _ HF.out.rB; have b2 := cell_of_row _ _ 2 _ _ _ HF.out.rB; have b3 := cell_of_row _ _ 3 _ _ _ HF.out.rB
                simp only [List.getElem?_toArray, List.getElem?_cons_zero, List.getElem?_cons_succ] at a0 a1 a2 a3 b0 b1 b2 b3
                cases hn : isNumB a 1 with
                | true =>
                  have HE := Lib.hid (show ((a.op == 1) && (a.n == 1)) = true from hn)
                  have HGT := Lib.hid HG.out
                  rw [hn] at HGT
                  clear hn
                  go_wp2_with fail
                  refine (isNum_any _ _ _ _ _ _ true HE.out.symm).mono ?_
                  rintro e w4 ⟨rfl, hb⟩
                  clear p0 p1 p2 p3 z0 z1 z2 z3 f0 f1 f2 f3 a0 a1 a2 a3 b0 b1 b2 b3
                  replace HX := Lib.hid (HX.out.later hb)
                  replace HF := Lib.hid (HF.out.later hb)
                  clear hb
                  have p0 := HF.out.two.p0; have p1 := HF.out.two.p1; have p2 := HF.out.two.p2; have p3 := HF.out.two.p3
                  have z0 := HF.out.two.z0; have z1 := HF.out.two.z1; have z2 := HF.out.two.z2; have z3 := HF.out.two.z3
                  have f0 := HF.out.two.zf 0; have f1 := HF.out.two.zf 1; have f2 := HF.out.two.zf 2; have f3 := HF.out.two.zf 3
                  have a0 := cell_of_row _ _ 0 _ _ _ HF.out.rA; have a1 := cell_of_row _ _ 1 _ _ _ HF.out.rA; have a2 := cell_of_row _ _ 2 _ _ _ HF.out.rA; have a3 := cell_of_row _ _ 3 _ _ _ HF.out.rA
                  have b0 := cell_of_row _ _ 0 _ _ _ HF.out.rB; have b1 := cell_of_row _ _ 1 _ _ _ HF.out.rB; have b2 := cell_of_row _ _ 2 _ _ _ HF.out.rB; have b3 := cell_of_row _ _ 3 _ _ _ HF.out.rB
                  simp only [List.getElem?_toArray, List.getElem?_cons_zero, List.getElem?_cons_succ] at a0 a1 a2 a3 b0 b1 b2 b3
                  have HZ := Lib.hid (HF.out.two.fin HS.out HX.out.b)
                  have HQ := Lib.hid (show R = _ from HGT.out)
                  go_wp2
                  refine bodyPost_ret (results_cell_row rfl _ _ (w.heap.size + 1) 29 _ (0, 0) _ rfl HZ.out.1 Tryd.underlying29 rfl (by kernel_rfl)) rfl ?_
                  exact ⟨[_, _, _, _], rfl, by rw [HQ.out]; exact HZ.out.2.1, HZ.out.2.2⟩
                | false =>
                  have HE := Lib.hid (show ((a.op == 1) && (a.n == 1)) = false from hn)
                  have HG := Lib.hid HG.out
                  rw [hn] at HG
                  clear hn
                  go_wp2_with fail
                  refine (isNum_any _ _ _ _ _ _ false HE.out.symm).mono ?_
                  rintro e w4 ⟨rfl, hb⟩
                  clear p0 p1 p2 p3 z0 z1 z2 z3 f0 f1 f2 f3 a0 a1 a2 a3 b0 b1 b2 b3
                  replace HX := Lib.hid (HX.out.later hb)
                  replace HF := Lib.hid (HF.out.later hb)
                  clear hb
                  have p0 := HF.out.two.p0; have p1 := HF.out.two.p1; have p2 := HF.out.two.p2; have p3 := HF.out.two.p3
                  have z0 := HF.out.two.z0; have z1 := HF.out.two.z1; have z2 := HF.out.two.z2; have z3 := HF.out.two.z3
                  have f0 := HF.out.two.zf 0; have f1 := HF.out.two.zf 1; have f2 := HF.out.two.zf 2; have f3 := HF.out.two.zf 3
                  have a0 := cell_of_row _ _ 0 _ _ _ HF.out.rA; have a1 := cell_of_row _ _ 1 _ _ _ HF.out.rA; have a2 := cell_of_row _ _ 2 _ _ _ HF.out.rA; have a3 := cell_of_row _ _ 3 _ _ _ HF.out.rA
                  have b0 := cell_of_row _ _ 0 _ _ _ HF.out.rB; have b1 := cell_of_row _ _ 1 _ _ _ HF.out.rB; have b2 := cell_of_row _ _ 2 _ _ _ HF.out.rB; have b3 := cell_of_row _ _ 3 _ _ _ HF.out.rB
                  simp only [List.getElem?_toArray, List.getElem?_cons_zero, List.getElem?_cons_succ] at a0 a1 a2 a3 b0 b1 b2 b3
                  cases hn : isNumB b 0 with
                  | true =>
                    have HE := Lib.hid (show ((b.op == 1) && (b.n == 0)) = true from hn)
                    have HG := Lib.hid HG.out
                    rw [hn] at HG
                    clear hn
                    go_wp2_with fail
                    refine (isNum_any _ _ _ _ _ _ true HE.out.symm).mono ?_
                    rintro e w4 ⟨rfl, hb⟩
                    clear p0 p1 p2 p3 z0 z1 z2 z3 f0 f1 f2 f3 a0 a1 a2 a3 b0 b1 b2 b3
                    replace HX := Lib.hid (HX.out.later hb)
                    replace HF := Lib.hid (HF.out.later hb)
                    clear hb
                    have p0 := HF.out.two.p0; have p1 := HF.out.two.p1; have p2 := HF.out.two.p2; have p3 := HF.out.two.p3
                    have z0 := HF.out.two.z0; have z1 := HF.out.two.z1; have z2 := HF.out.two.z2; have z3 := HF.out.two.z3
                    have f0 := HF.out.two.zf 0; have f1 := HF.out.two.zf 1; have f2 := HF.out.two.zf 2; have f3 := HF.out.two.zf 3
                    have a0 := cell_of_row _ _ 0 _ _ _ HF.out.rA; have a1 := cell_of_row _ _ 1 _ _ _ HF.out.rA; have a2 := cell_of_row _ _ 2 _ _ _ HF.out.rA; have a3 := cell_of_row _ _ 3 _ _ _ HF.out.rA
                    have b0 := cell_of_row _ _ 0 _ _ _ HF.out.rB; have b1 := cell_of_row _ _ 1 _ _ _ HF.out.rB; have b2 := cell_of_row _ _ 2 _ _ _ HF.out.rB; have b3 := cell_of_row _ _ 3 _ _ _ HF.out.rB
                    simp only [List.getElem?_toArray, List.getElem?_cons_zero, List.getElem?_cons_succ] at a0 a1 a2 a3 b0 b1 b2 b3
                    cases hsf : safeD a with
                    | true =>
                      have HE := Lib.hid hsf
                      have HGT := Lib.hid HG.out
                      rw [hsf] at HGT
                      clear hsf
                      have HSA := Lib.hid (safeExpr_any (m + 1) _ a _ HX.out.ops HX.out.keys (exprP_at HX.out.a))
                      rw [HE.out] at HSA
                      go_wp2_with fail
                      refine HSA.out.mono ?_
                      rintro e w4 ⟨rfl, hb⟩
                      clear HSA
                      clear p0 p1 p2 p3 z0 z1 z2 z3 f0 f1 f2 f3 a0 a1 a2 a3 b0 b1 b2 b3
                      replace HX := Lib.hid (HX.out.later hb)
                      replace HF := Lib.hid (HF.out.later hb)
                      clear hb
                      have p0 := HF.out.two.p0; have p1 := HF.out.two.p1; have p2 := HF.out.two.p2; have p3 := HF.out.two.p3
                      have z0 := HF.out.two.z0; have z1 := HF.out.two.z1; have z2 := HF.out.two.z2; have z3 := HF.out.two.z3
                      have f0 := HF.out.two.zf 0; have f1 := HF.out.two.zf 1; have f2 := HF.out.two.zf 2; have f3 := HF.out.two.zf 3
                      have a0 := cell_of_row _ _ 0 _ _ _ HF.out.rA; have a1 := cell_of_row _ _ 1 _ _ _ HF.out.rA; have a2 := cell_of_row _ _ 2 _ _ _ HF.out.rA; have a3 := cell_of_row _ _ 3 _ _ _ HF.out.rA
                      have b0 := cell_of_row _ _ 0 _ _ _ HF.out.rB; have b1 := cell_of_row _ _ 1 _ _ _ HF.out.rB; have b2 := cell_of_row _ _ 2 _ _ _ HF.out.rB; have b3 := cell_of_row _ _ 3 _ _ _ HF.out.rB
                      simp only [List.getElem?_toArray, List.getElem?_cons_zero, List.getElem?_cons_succ] at a0 a1 a2 a3 b0 b1 b2 b3
                      go_wp2_with fail
                      refine (numExpr_any 0 _).mono ?_
                      rintro e w4 ⟨rfl, hb⟩
                      clear p0 p1 p2 p3 z0 z1 z2 z3 f0 f1 f2 f3 a0 a1 a2 a3 b0 b1 b2 b3
                      replace HX := Lib.hid (HX.out.later hb)
                      replace HF := Lib.hid (HF.out.later hb)
                      clear hb
                      have p0 := HF.out.two.p0; have p1 := HF.out.two.p1; have p2 := HF.out.two.p2; have p3 := HF.out.two.p3
                      have z0 := HF.out.two.z0; have z1 := HF.out.two.z1; have z2 := HF.out.two.z2; have z3 := HF.out.two.z3
                      have f0 := HF.out.two.zf 0; have f1 := HF.out.two.zf 1; have f2 := HF.out.two.zf 2; have f3 := HF.out.two.zf 3
                      have a0 := cell_of_row _ _ 0 _ _ _ HF.out.rA; have a1 := cell_of_row _ _ 1 _ _ _ HF.out.rA; have a2 := cell_of_row _ _ 2 _ _ _ HF.out.rA; have a3 := cell_of_row _ _ 3 _ _ _ HF.out.rA
                      have b0 := cell_of_row _ _ 0 _ _ _ HF.out.rB; have b1 := cell_of_row _ _ 1 _ _ _ HF.out.rB; have b2 := cell_of_row _ _ 2 _ _ _ HF.out.rB; have b3 := cell_of_row _ _ 3 _ _ _ HF.out.rB
                      simp only [List.getElem?_toArray, List.getElem?_cons_zero, List.getElem?_cons_succ] at a0 a1 a2 a3 b0 b1 b2 b3
                      have HZ := Lib.hid (HF.out.two.fin HS.out (FX.num (Nat.succ_ne_zero m) 0))
                      have HQ := Lib.hid (show R = _ from HGT.out)
                      go_wp2
                      refine bodyPost_ret (results_cell_row rfl _ _ (w.heap.size + 1) 29 _ (0, 0) _ rfl HZ.out.1 Tryd.underlying29 rfl (by kernel_rfl)) rfl ?_
                      exact ⟨[_, _, _, _], rfl, by rw [HQ.out]; exact HZ.out.2.1, HZ.out.2.2⟩
                    | false =>
                      have HE := Lib.hid hsf
                      have HG := Lib.hid HG.out
                      rw [hsf] at HG
                      clear hsf
                      have HSA := Lib.hid (safeExpr_any (m + 1) _ a _ HX.out.ops HX.out.keys (exprP_at HX.out.a))
                      rw [HE.out] at HSA
                      go_wp2_with fail
                      refine HSA.out.mono ?_
                      rintro e w4 ⟨rfl, hb⟩
                      clear HSA
                      clear p0 p1 p2 p3 z0 z1 z2 z3 f0 f1 f2 f3 a0 a1 a2 a3 b0 b1 b2 b3
                      replace HX := Lib.hid (HX.out.later hb)
                      replace HF := Lib.hid (HF.out.later hb)
                      clear hb
                      have p0 := HF.out.two.p0; have p1 := HF.out.two.p1; have p2 := HF.out.two.p2; have p3 := HF.out.two.p3
                      have z0 := HF.out.two.z0; have z1 := HF.out.two.z1; have z2 := HF.out.two.z2; have z3 := HF.out.two.z3
                      have f0 := HF.out.two.zf 0; have f1 := HF.out.two.zf 1; have f2 := HF.out.two.zf 2; have f3 := HF.out.two.zf 3
                      have a0 := cell_of_row _ _ 0 _ _ _ HF.out.rA; have a1 := cell_of_row _ _ 1 _ _ _ HF.out.rA; have a2 := cell_of_row _ _ 2 _ _ _ HF.out.rA; have a3 := cell_of_row _ _ 3 _ _ _ HF.out.rA
                      have b0 := cell_of_row _ _ 0 _ _ _ HF.out.rB; have b1 := cell_of_row _ _ 1 _ _ _ HF.out.rB; have b2 := cell_of_row _ _ 2 _ _ _ HF.out.rB; have b3 := cell_of_row _ _ 3 _ _ _ HF.out.rB
                      simp only [List.getElem?_toArray, List.getElem?_cons_zero, List.getElem?_cons_succ] at a0 a1 a2 a3 b0 b1 b2 b3
                      cases hn : isNumB a 0 with
                      | true =>
                        have HE := Lib.hid (show ((a.op == 1) && (a.n == 0)) = true from hn)
                        have HG := Lib.hid HG.out
                        rw [hn] at HG
                        clear hn
                        go_wp2_with fail
                        refine (isNum_any _ _ _ _ _ _ true HE.out.symm).mono ?_
                        rintro e w4 ⟨rfl, hb⟩
                        clear p0 p1 p2 p3 z0 z1 z2 z3 f0 f1 f2 f3 a0 a1 a2 a3 b0 b1 b2 b3
                        replace HX := Lib.hid (HX.out.later hb)
                        replace HF := Lib.hid (HF.out.later hb)
                        clear hb
                        have p0 := HF.out.two.p0; have p1 := HF.out.two.p1; have p2 := HF.out.two.p2; have p3 := HF.out.two.p3
                        have z0 := HF.out.two.z0; have z1 := HF.out.two.z1; have z2 := HF.out.two.z2; have z3 := HF.out.two.z3
                        have f0 := HF.out.two.zf 0; have f1 := HF.out.two.zf 1; have f2 := HF.out.two.zf 2; have f3 := HF.out.two.zf 3
                        have a0 := cell_of_row _ _ 0 _ _ _ HF.out.rA; have a1 := cell_of_row _ _ 1 _ _ _ HF.out.rA; have a2 := cell_of_row _ _ 2 _ _ _ HF.out.rA; have a3 := cell_of_row _ _ 3 _ _ _ HF.out.rA
                        have b0 := cell_of_row _ _ 0 _ _ _ HF.out.rB; have b1 := cell_of_row _ _ 1 _ _ _ HF.out.rB; have b2 := cell_of_row _ _ 2 _ _ _ HF.out.rB; have b3 := cell_of_row _ _ 3 _ _ _ HF.out.rB
                        simp only [List.getElem?_toArray, List.getElem?_cons_zero, List.getElem?_cons_succ] at a0 a1 a2 a3 b0 b1 b2 b3
                        cases hsf : safeD b with
                        | true =>
                          have HE := Lib.hid hsf
                          have HGT := Lib.hid HG.out
                          rw [hsf] at HGT
                          clear hsf
                          have HSA := Lib.hid (safeExpr_any (m + 1) _ b _ HX.out.ops HX.out.keys (exprP_at HX.out.b))
                          rw [HE.out] at HSA
                          go_wp2_with fail
                          refine HSA.out.mono ?_
                          rintro e w4 ⟨rfl, hb⟩
                          clear HSA
                          clear p0 p1 p2 p3 z0 z1 z2 z3 f0 f1 f2 f3 a0 a1 a2 a3 b0 b1 b2 b3
                          replace HX := Lib.hid (HX.out.later hb)
                          replace HF := Lib.hid (HF.out.later hb)
                          clear hb
                          have p0 := HF.out.two.p0; have p1 := HF.out.two.p1; have p2 := HF.out.two.p2; have p3 := HF.out.two.p3
                          have z0 := HF.out.two.z0; have z1 := HF.out.two.z1; have z2 := HF.out.two.z2; have z3 := HF.out.two.z3
                          have f0 := HF.out.two.zf 0; have f1 := HF.out.two.zf 1; have f2 := HF.out.two.zf 2; have f3 := HF.out.two.zf 3
                          have a0 := cell_of_row _ _ 0 _ _ _ HF.out.rA; have a1 := cell_of_row _ _ 1 _ _ _ HF.out.rA; have a2 := cell_of_row _ _ 2 _ _ _ HF.out.rA; have a3 := cell_of_row _ _ 3 _ _ _ HF.out.rA
                          have b0 := cell_of_row _ _ 0 _ _ _ HF.out.rB; have b1 := cell_of_row _ _ 1 _ _ _ HF.out.rB; have b2 := cell_of_row _ _ 2 _ _ _ HF.out.rB; have b3 := cell_of_row _ _ 3 _ _ _ HF.out.rB
                          simp only [List.getElem?_toArray, List.getElem?_cons_zero, List.getElem?_cons_succ] at a0 a1 a2 a3 b0 b1 b2 b3
                          go_wp2_with fail
                          refine (numExpr_any 0 _).mono ?_
                          rintro e w4 ⟨rfl, hb⟩
                          clear p0 p1 p2 p3 z0 z1 z2 z3 f0 f1 f2 f3 a0 a1 a2 a3 b0 b1 b2 b3
                          replace HX := Lib.hid (HX.out.later hb)
                          replace HF := Lib.hid (HF.out.later hb)
                          clear hb
                          have p0 := HF.out.two.p0; have p1 := HF.out.two.p1; have p2 := HF.out.two.p2; have p3 := HF.out.two.p3
                          have z0 := HF.out.two.z0; have z1 := HF.out.two.z1; have z2 := HF.out.two.z2; have z3 := HF.out.two.z3
                          have f0 := HF.out.two.zf 0; have f1 := HF.out.two.zf 1; have f2 := HF.out.two.zf 2; have f3 := HF.out.two.zf 3
                          have a0 := cell_of_row _ _ 0 _ _ _ HF.out.rA; have a1 := cell_of_row _ _ 1 _ _ _ HF.out.rA; have a2 := cell_of_row _ _ 2 _ _ _ HF.out.rA; have a3 := cell_of_row _ _ 3 _ _ _ HF.out.rA
                          have b0 := cell_of_row _ _ 0 _ _ _ HF.out.rB; have b1 := cell_of_row _ _ 1 _ _ _ HF.out.rB; have b2 := cell_of_row _ _ 2 _ _ _ HF.out.rB; have b3 := cell_of_row _ _ 3 _ _ _ HF.out.rB
                          simp only [List.getElem?_toArray, List.getElem?_cons_zero, List.getElem?_cons_succ] at a0 a1 a2 a3 b0 b1 b2 b3
                          have HZ := Lib.hid (HF.out.two.fin HS.out (FX.num (Nat.succ_ne_zero m) 0))
                          have HQ := Lib.hid (show R = _ from HGT.out)
                          go_wp2
                          refine bodyPost_ret (results_cell_row rfl _ _ (w.heap.size + 1) 29 _ (0, 0) _ rfl HZ.out.1 Tryd.underlying29 rfl (by kernel_rfl)) rfl ?_
                          exact ⟨[_, _, _, _], rfl, by rw [HQ.out]; exact HZ.out.2.1, HZ.out.2.2⟩
                        | false =>
                          have HE := Lib.hid hsf
                          have HG := Lib.hid HG.out
                          rw [hsf] at HG
                          clear hsf
                          have HSA := Lib.hid (safeExpr_any (m + 1) _ b _ HX.out.ops HX.out.keys (exprP_at HX.out.b))
                          rw [HE.out] at HSA
                          go_wp2_with fail
                          refine HSA.out.mono ?_
                          rintro e w4 ⟨rfl, hb⟩
                          clear HSA
                          clear p0 p1 p2 p3 z0 z1 z2 z3 f0 f1 f2 f3 a0 a1 a2 a3 b0 b1 b2 b3
                          replace HX := Lib.hid (HX.out.later hb)
                          replace HF := Lib.hid (HF.out.later hb)
                          clear hb
                          have p0 := HF.out.two.p0; have p1 := HF.out.two.p1; have p2 := HF.out.two.p2; have p3 := HF.out.two.p3
                          have z0 := HF.out.two.z0; have z1 := HF.out.two.z1; have z2 := HF.out.two.z2; have z3 := HF.out.two.z3
                          have f0 := HF.out.two.zf 0; have f1 := HF.out.two.zf 1; have f2 := HF.out.two.zf 2; have f3 := HF.out.two.zf 3
                          have a0 := cell_of_row _ _ 0 _ _ _ HF.out.rA; have a1 := cell_of_row _ _ 1 _ _ _ HF.out.rA; have a2 := cell_of_row _ _ 2 _ _ _ HF.out.rA; have a3 := cell_of_row _ _ 3 _ _ _ HF.out.rA
                          have b0 := cell_of_row _ _ 0 _ _ _ HF.out.rB; have b1 := cell_of_row _ _ 1 _ _ _ HF.out.rB; have b2 := cell_of_row _ _ 2 _ _ _ HF.out.rB; have b3 := cell_of_row _ _ 3 _ _ _ HF.out.rB
                          simp only [List.getElem?_toArray, List.getElem?_cons_zero, List.getElem?_cons_succ] at a0 a1 a2 a3 b0 b1 b2 b3
                          have HZ := Lib.hid (HF.out.two.fin HS.out HX.out.x)
                          have HQ := Lib.hid (show R = _ from HG.out.trans (if_neg (by simp)))
                          go_wp2
                          refine bodyPost_ret (results_cell_row rfl _ _ (w.heap.size + 1) 29 _ (0, 0) _ rfl HZ.out.1 Tryd.underlying29 rfl (by kernel_rfl)) rfl ?_
                          exact ⟨[_, _, _, _], rfl, by rw [HQ.out]; exact HZ.out.2.1, HZ.out.2.2⟩
                      | false =>
                        have HE := Lib.hid (show ((a.op == 1) && (a.n == 0)) = false from hn)
                        have HG := Lib.hid HG.out
                        rw [hn] at HG
                        clear hn
                        go_wp2_with fail
                        refine (isNum_any _ _ _ _ _ _ false HE.out.symm).mono ?_
                        rintro e w4 ⟨rfl, hb⟩
                        clear p0 p1 p2 p3 z0 z1 z2 z3 f0 f1 f2 f3 a0 a1 a2 a3 b0 b1 b2 b3
                        replace HX := Lib.hid (HX.out.later hb)
                        replace HF := Lib.hid (HF.out.later hb)
                        clear hb
                        have p0 := HF.out.two.p0; have p1 := HF.out.two.p1; have p2 := HF.out.two.p2; have p3 := HF.out.two.p3
                        have z0 := HF.out.two.z0; have z1 := HF.out.two.z1; have z2 := HF.out.two.z2; have z3 := HF.out.two.z3
                        have f0 := HF.out.two.zf 0; have f1 := HF.out.two.zf 1; have f2 := HF.out.two.zf 2; have f3 := HF.out.two.zf 3
                        have a0 := cell_of_row _ _ 0 _ _ _ HF.out.rA; have a1 := cell_of_row _ _ 1 _ _ _ HF.out.rA; have a2 := cell_of_row _ _ 2 _ _ _ HF.out.rA; have a3 := cell_of_row _ _ 3 _ _ _ HF.out.rA
                        have b0 := cell_of_row _ _ 0 _ _ _ HF.out.rB; have b1 := cell_of_row _ _ 1 _ _ _ HF.out.rB; have b2 := cell_of_row _ _ 2 _ _ _ HF.out.rB; have b3 := cell_of_row _ _ 3 _ _ _ HF.out.rB
                        simp only [List.getElem?_toArray, List.getElem?_cons_zero, List.getElem?_cons_succ] at a0 a1 a2 a3 b0 b1 b2 b3
                        have HZ := Lib.hid (HF.out.two.fin HS.out HX.out.x)
                        have HQ := Lib.hid (show R = _ from HG.out.trans (if_neg (by simp)))
                        go_wp2
                        refine bodyPost_ret (results_cell_row rfl _ _ (w.heap.size + 1) 29 _ (0, 0) _ rfl HZ.out.1 Tryd.underlying29 rfl (by kernel_rfl)) rfl ?_
                        exact ⟨[_, _, _, _], rfl, by rw [HQ.out]; exact HZ.out.2.1, HZ.out.2.2⟩
                  | false =>
                    have HE := Lib.hid (show ((b.op == 1) && (b.n == 0)) = false from hn)
                    have HG := Lib.hid HG.out
                    rw [hn] at HG
                    clear hn
                    go_wp2_with fail
                    refine (isNum_any _ _ _ _ _ _ false HE.out.symm).mono ?_
                    rintro e w4 ⟨rfl, hb⟩
                    clear p0 p1 p2 p3 z0 z1 z2 z3 f0 f1 f2 f3 a0 a1 a2 a3 b0 b1 b2 b3
                    replace HX := Lib.hid (HX.out.later hb)
                    replace HF := Lib.hid (HF.out.later hb)
                    clear hb
                    have p0 := HF.out.two.p0; have p1 := HF.out.two.p1; have p2 := HF.out.two.p2; have p3 := HF.out.two.p3
                    have z0 := HF.out.two.z0; have z1 := HF.out.two.z1; have z2 := HF.out.two.z2; have z3 := HF.out.two.z3
                    have f0 := HF.out.two.zf 0; have f1 := HF.out.two.zf 1; have f2 := HF.out.two.zf 2; have f3 := HF.out.two.zf 3
                    have a0 := cell_of_row _ _ 0 _ _ _ HF.out.rA; have a1 := cell_of_row _ _ 1 _ _ _ HF.out.rA; have a2 := cell_of_row _ _ 2 _ _ _ HF.out.rA; have a3 := cell_of_row _ _ 3 _ _ _ HF.out.rA
                    have b0 := cell_of_row _ _ 0 _ _ _ HF.out.rB; have b1 := cell_of_row _ _ 1 _ _ _ HF.out.rB; have b2 := cell_of_row _ _ 2 _ _ _ HF.out.rB; have b3 := cell_of_row _ _ 3 _ _ _ HF.out.rB
                    simp only [List.getElem?_toArray, List.getElem?_cons_zero, List.getElem?_cons_succ] at a0 a1 a2 a3 b0 b1 b2 b3
                    cases hn : isNumB a 0 with
                    | true =>
                      have HE := Lib.hid (show ((a.op == 1) && (a.n == 0)) = true from hn)
                      have HG := Lib.hid HG.out
                      rw [hn] at HG
                      clear hn
                      go_wp2_with fail
                      refine (isNum_any _ _ _ _ _ _ true HE.out.symm).mono ?_
                      rintro e w4 ⟨rfl, hb⟩
                      clear p0 p1 p2 p3 z0 z1 z2 z3 f0 f1 f2 f3 a0 a1 a2 a3 b0 b1 b2 b3
                      replace HX := Lib.hid (HX.out.later hb)
                      replace HF := Lib.hid (HF.out.later hb)
                      clear hb
                      have p0 := HF.out.two.p0; have p1 := HF.out.two.p1; have p2 := HF.out.two.p2; have p3 := HF.out.two.p3
                      have z0 := HF.out.two.z0; have z1 := HF.out.two.z1; have z2 := HF.out.two.z2; have z3 := HF.out.two.z3
                      have f0 := HF.out.two.zf 0; have f1 := HF.out.two.zf 1; have f2 := HF.out.two.zf 2; have f3 := HF.out.two.zf 3
                      have a0 := cell_of_row _ _ 0 _ _ _ HF.out.rA; have a1 := cell_of_row _ _ 1 _ _ _ HF.out.rA; have a2 := cell_of_row _ _ 2 _ _ _ HF.out.rA; have a3 := cell_of_row _ _ 3 _ _ _ HF.out.rA
                      have b0 := cell_of_row _ _ 0 _ _ _ HF.out.rB; have b1 := cell_of_row _ _ 1 _ _ _ HF.out.rB; have b2 := cell_of_row _ _ 2 _ _ _ HF.out.rB; have b3 := cell_of_row _ _ 3 _ _ _ HF.out.rB
                      simp only [List.getElem?_toArray, List.getElem?_cons_zero, List.getElem?_cons_succ] at a0 a1 a2 a3 b0 b1 b2 b3
                      cases hsf : safeD b with
                      | true =>
                        have HE := Lib.hid hsf
                        have HGT := Lib.hid HG.out
                        rw [hsf] at HGT
                        clear hsf
                        have HSA := Lib.hid (safeExpr_any (m + 1) _ b _ HX.out.ops HX.out.keys (exprP_at HX.out.b))
                        rw [HE.out] at HSA
                        go_wp2_with fail
                        refine HSA.out.mono ?_
                        rintro e w4 ⟨rfl, hb⟩
                        clear HSA
                        clear p0 p1 p2 p3 z0 z1 z2 z3 f0 f1 f2 f3 a0 a1 a2 a3 b0 b1 b2 b3
                        replace HX := Lib.hid (HX.out.later hb)
                        replace HF := Lib.hid (HF.out.later hb)
                        clear hb
                        have p0 := HF.out.two.p0; have p1 := HF.out.two.p1; have p2 := HF.out.two.p2; have p3 := HF.out.two.p3
                        have z0 := HF.out.two.z0; have z1 := HF.out.two.z1; have z2 := HF.out.two.z2; have z3 := HF.out.two.z3
                        have f0 := HF.out.two.zf 0; have f1 := HF.out.two.zf 1; have f2 := HF.out.two.zf 2; have f3 := HF.out.two.zf 3
                        have a0 := cell_of_row _ _ 0 _ _ _ HF.out.rA; have a1 := cell_of_row _ _ 1 _ _ _ HF.out.rA; have a2 := cell_of_row _ _ 2 _ _ _ HF.out.rA; have a3 := cell_of_row _ _ 3 _ _ _ HF.out.rA
                        have b0 := cell_of_row _ _ 0 _ _ _ HF.out.rB; have b1 := cell_of_row _ _ 1 _ _ _ HF.out.rB; have b2 := cell_of_row _ _ 2 _ _ _ HF.out.rB; have b3 := cell_of_row _ _ 3 _ _ _ HF.out.rB
                        simp only [List.getElem?_toArray, List.getElem?_cons_zero, List.getElem?_cons_succ] at a0 a1 a2 a3 b0 b1 b2 b3
                        go_wp2_with fail
                        refine (numExpr_any 0 _).mono ?_
                        rintro e w4 ⟨rfl, hb⟩
                        clear p0 p1 p2 p3 z0 z1 z2 z3 f0 f1 f2 f3 a0 a1 a2 a3 b0 b1 b2 b3
                        replace HX := Lib.hid (HX.out.later hb)
                        replace HF := Lib.hid (HF.out.later hb)
                        clear hb
                        have p0 := HF.out.two.p0; have p1 := HF.out.two.p1; have p2 := HF.out.two.p2; have p3 := HF.out.two.p3
                        have z0 := HF.out.two.z0; have z1 := HF.out.two.z1; have z2 := HF.out.two.z2; have z3 := HF.out.two.z3
                        have f0 := HF.out.two.zf 0; have f1 := HF.out.two.zf 1; have f2 := HF.out.two.zf 2; have f3 := HF.out.two.zf 3
                        have a0 := cell_of_row _ _ 0 _ _ _ HF.out.rA; have a1 := cell_of_row _ _ 1 _ _ _ HF.out.rA; have a2 := cell_of_row _ _ 2 _ _ _ HF.out.rA; have a3 := cell_of_row _ _ 3 _ _ _ HF.out.rA
                        have b0 := cell_of_row _ _ 0 _ _ _ HF.out.rB; have b1 := cell_of_row _ _ 1 _ _ _ HF.out.rB; have b2 := cell_of_row _ _ 2 _ _ _ HF.out.rB; have b3 := cell_of_row _ _ 3 _ _ _ HF.out.rB
                        simp only [List.getElem?_toArray, List.getElem?_cons_zero, List.getElem?_cons_succ] at a0 a1 a2 a3 b0 b1 b2 b3
                        have HZ := Lib.hid (HF.out.two.fin HS.out (FX.num (Nat.succ_ne_zero m) 0))
                        have HQ := Lib.hid (show R = _ from HGT.out)
                        go_wp2
                        refine bodyPost_ret (results_cell_row rfl _ _ (w.heap.size + 1) 29 _ (0, 0) _ rfl HZ.out.1 Tryd.underlying29 rfl (by kernel_rfl)) rfl ?_
                        exact ⟨[_, _, _, _], rfl, by rw [HQ.out]; exact HZ.out.2.1, HZ.out.2.2⟩
                      | false =>
                        have HE := Lib.hid hsf
                        have HG := Lib.hid HG.out
                        rw [hsf] at HG
                        clear hsf
                        have HSA := Lib.hid (safeExpr_any (m + 1) _ b _ HX.out.ops HX.out.keys (exprP_at HX.out.b))
                        rw [HE.out] at HSA
                        go_wp2_with fail
                        refine HSA.out.mono ?_
                        rintro e w4 ⟨rfl, hb⟩
                        clear HSA
                        clear p0 p1 p2 p3 z0 z1 z2 z3 f0 f1 f2 f3 a0 a1 a2 a3 b0 b1 b2 b3
                        replace HX := Lib.hid (HX.out.later hb)
                        replace HF := Lib.hid (HF.out.later hb)
                        clear hb
                        have p0 := HF.out.two.p0; have p1 := HF.out.two.p1; have p2 := HF.out.two.p2; have p3 := HF.out.two.p3
                        have z0 := HF.out.two.z0; have z1 := HF.out.two.z1; have z2 := HF.out.two.z2; have z3 := HF.out.two.z3
                        have f0 := HF.out.two.zf 0; have f1 := HF.out.two.zf 1; have f2 := HF.out.two.zf 2; have f3 := HF.out.two.zf 3
                        have a0 := cell_of_row _ _ 0 _ _ _ HF.out.rA; have a1 := cell_of_row _ _ 1 _ _ _ HF.out.rA; have a2 := cell_of_row _ _ 2 _ _ _ HF.out.rA; have a3 := cell_of_row _ _ 3 _ _ _ HF.out.rA
                        have b0 := cell_of_row _ _ 0 _ _ _ HF.out.rB; have b1 := cell_of_row _ _ 1 _ _ _ HF.out.rB; have b2 := cell_of_row _ _ 2 _ _ _ HF.out.rB; have b3 := cell_of_row _ _ 3 _ _ _ HF.out.rB
                        simp only [List.getElem?_toArray, List.getElem?_cons_zero, List.getElem?_cons_succ] at a0 a1 a2 a3 b0 b1 b2 b3
                        have HZ := Lib.hid (HF.out.two.fin HS.out HX.out.x)
                        have HQ := Lib.hid (show R = _ from HG.out.trans (if_neg (by simp)))
                        go_wp2
                        refine bodyPost_ret (results_cell_row rfl _ _ (w.heap.size + 1) 29 _ (0, 0) _ rfl HZ.out.1 Tryd.underlying29 rfl (by kernel_rfl)) rfl ?_
                        exact ⟨[_, _, _, _], rfl, by rw [HQ.out]; exact HZ.out.2.1, HZ.out.2.2⟩
                    | false =>
                      have HE := Lib.hid (show ((a.op == 1) && (a.n == 0)) = false from hn)
                      have HG := Lib.hid HG.out
                      rw [hn] at HG
                      clear hn
                      go_wp2_with fail
                      refine (isNum_any _ _ _ _ _ _ false HE.out.symm).mono ?_
                      rintro e w4 ⟨rfl, hb⟩
                      clear p0 p1 p2 p3 z0 z1 z2 z3 f0 f1 f2 f3 a0 a1 a2 a3 b0 b1 b2 b3
                      replace HX := Lib.hid (HX.out.later hb)
                      replace HF := Lib.hid (HF.out.later hb)
                      clear hb
                      have p0 := HF.out.two.p0; have p1 := HF.out.two.p1; have p2 := HF.out.two.p2; have p3 := HF.out.two.p3
                      have z0 := HF.out.two.z0; have z1 := HF.out.two.z1; have z2 := HF.out.two.z2; have z3 := HF.out.two.z3
                      have f0 := HF.out.two.zf 0; have f1 := HF.out.two.zf 1; have f2 := HF.out.two.zf 2; have f3 := HF.out.two.zf 3
                      have a0 := cell_of_row _ _ 0 _ _ _ HF.out.rA; have a1 := cell_of_row _ _ 1 _ _ _ HF.out.rA; have a2 := cell_of_row _ _ 2 _ _ _ HF.out.rA; have a3 := cell_of_row _ _ 3 _ _ _ HF.out.rA
                      have b0 := cell_of_row _ _ 0 _ _ _ HF.out.rB; have b1 := cell_of_row _ _ 1 _ _ _ HF.out.rB; have b2 := cell_of_row _ _ 2 _ _ _ HF.out.rB; have b3 := cell_of_row _ _ 3 _ _ _ HF.out.rB
                      simp only [List.getElem?_toArray, List.getElem?_cons_zero, List.getElem?_cons_succ] at a0 a1 a2 a3 b0 b1 b2 b3
                      have HZ := Lib.hid (HF.out.two.fin HS.out HX.out.x)
                      have HQ := Lib.hid (show R = _ from HG.out.trans (if_neg (by simp)))
                      go_wp2
                      refine bodyPost_ret (results_cell_row rfl _ _ (w.heap.size + 1) 29 _ (0, 0) _ rfl HZ.out.1 Tryd.underlying29 rfl (by kernel_rfl)) rfl ?_
                      exact ⟨[_, _, _, _], rfl, by rw [HQ.out]; exact HZ.out.2.1, HZ.out.2.2⟩
            have t5 : (op == 5) = false := by simpa using h5
            by_cases h6 : op = 6
            · obtain rfl : op = 6 := h6
              have HG := Lib.hid (show R = (if isNumB b 1 = true then a else .mk 6 n name [a, b]) from HG.out)
              clear h11
              cases hn : isNumB b 1 with
              | true =>
                have HE := Lib.hid (show ((b.op == 1) && (b.n == 1)) = true from hn)
                have HGT := Lib.hid HG.out
                rw [hn] at HGT
                clear hn
                go_wp2_with fail
                refine (isNum_any _ _ _ _ _ _ true HE.out.symm).mono ?_
                rintro e w4 ⟨rfl, hb⟩
                clear p0 p1 p2 p3 z0 z1 z2 z3 f0 f1 f2 f3 a0 a1 a2 a3 b0 b1 b2 b3
                replace HX := Lib.hid (HX.out.later hb)
                replace HF := Lib.hid (HF.out.later hb)
                clear hb
                have p0 := HF.out.two.p0; have p1 := HF.out.two.p1; have p2 := HF.out.two.p2; have p3 := HF.out.two.p3
                have z0 := HF.out.two.z0; have z1 := HF.out.two.z1; have z2 := HF.out.two.z2; have z3 := HF.out.two.z3
                have f0 := HF.out.two.zf 0; have f1 := HF.out.two.zf 1; have f2 := HF.out.two.zf 2; have f3 := HF.out.two.zf 3
                have a0 := cell_of_row _ _ 0 _ _ _ HF.out.rA; have a1 := cell_of_row _ _ 1 _ _ _ HF.out.rA; have a2 := cell_of_row _ _ 2 _ _ _ HF.out.rA; have a3 := cell_of_row _ _ 3 _ _ _ HF.out.rA
                have b0 := cell_of_row _ _ 0 _ _ _ HF.out.rB; have b1 := cell_of_row _ _ 1 _ _ _ HF.out.rB; have b2 := cell_of_row _ _ 2 _ _ _ HF.out.rB; have b3 := cell_of_row _ _ 3 _ _ _ HF.out.rB
                simp only [List.getElem?_toArray, List.getElem?_cons_zero, List.getElem?_cons_succ] at a0 a1 a2 a3 b0 b1 b2 b3
                have HZ := Lib.hid (HF.out.two.fin HS.out HX.out.a)
                have HQ := Lib.hid (show R = _ from HGT.out)
                go_wp2
                refine bodyPost_ret (results_cell_row rfl _ _ (w.heap.size + 1) 29 _ (0, 0) _ rfl HZ.out.1 Tryd.underlying29 rfl (by kernel_rfl)) rfl ?_
                exact ⟨[_, _, _, _], rfl, by rw [HQ.out]; exact HZ.out.2.1, HZ.out.2.2⟩
              | false =>
                have HE := Lib.hid (show ((b.op == 1) && (b.n == 1)) = false from hn)
                have HG := Lib.hid HG.out
                rw [hn] at HG
                clear hn
                go_wp2_with fail
                refine (isNum_any _ _ _ _ _ _ false HE.out.symm).mono ?_
                rintro e w4 ⟨rfl, hb⟩
                clear p0 p1 p2 p3 z0 z1 z2 z3 f0 f1 f2 f3 a0 a1 a2 a3 b0 b1 b2 b3
                replace HX := Lib.hid (HX.out.later hb)
                replace HF := Lib.hid (HF.out.later hb)
                clear hb
                have p0 := HF.out.two.p0; have p1 := HF.out.two.p1; have p2 := HF.out.two.p2; have p3 := HF.out.two.p3
                have z0 := HF.out.two.z0; have z1 := HF.out.two.z1; have z2 := HF.out.two.z2; have z3 := HF.out.two.z3
                have f0 := HF.out.two.zf 0; have f1 := HF.out.two.zf 1; have f2 := HF.out.two.zf 2; have f3 := HF.out.two.zf 3
                have a0 := cell_of_row _ _ 0 _ _ _ HF.out.rA; have a1 := cell_of_row _ _ 1 _ _ _ HF.out.rA; have a2 := cell_of_row _ _ 2 _ _ _ HF.out.rA; have a3 := cell_of_row _ _ 3 _ _ _ HF.out.rA
                have b0 := cell_of_row _ _ 0 _ _ _ HF.out.rB; have b1 := cell_of_row _ _ 1 _ _ _ HF.out.rB; have b2 := cell_of_row _ _ 2 _ _ _ HF.out.rB; have b3 := cell_of_row _ _ 3 _ _ _ HF.out.rB
                simp only [List.getElem?_toArray, List.getElem?_cons_zero, List.getElem?_cons_succ] at a0 a1 a2 a3 b0 b1 b2 b3
                have HZ := Lib.hid (HF.out.two.fin HS.out HX.out.x)
                have HQ := Lib.hid (show R = _ from HG.out)
                go_wp2
                refine bodyPost_ret (results_cell_row rfl _ _ (w.heap.size + 1) 29 _ (0, 0) _ rfl HZ.out.1 Tryd.underlying29 rfl (by kernel_rfl)) rfl ?_
                exact ⟨[_, _, _, _], rfl, by rw [HQ.out]; exact HZ.out.2.1, HZ.out.2.2⟩
            have t6 : (op == 6) = false := by simpa using h6
            have HG := Lib.hid (show R = .mk op n name [a, b] from HG.out.trans (by unfold partG; exact (if_neg h11).trans ((if_neg h10).trans ((if_neg h3).trans ((if_neg h4).trans ((if_neg h5).trans (if_neg h6)))))))
            clear h11 h10 h3 h4 h5 h6
            have HZ := Lib.hid (HF.out.two.fin HS.out HX.out.x)
            have HQ := Lib.hid (show R = _ from HG.out)
            go_wp2
            refine bodyPost_ret (results_cell_row rfl _ _ (w.heap.size + 1) 29 _ (0, 0) _ rfl HZ.out.1 Tryd.underlying29 rfl (by kernel_rfl)) rfl ?_
            exact ⟨[_, _, _, _], rfl, by rw [HQ.out]; exact HZ.out.2.1, HZ.out.2.2⟩

end Go.Proofs.YtccfbnhlhjlmgaaDoor
