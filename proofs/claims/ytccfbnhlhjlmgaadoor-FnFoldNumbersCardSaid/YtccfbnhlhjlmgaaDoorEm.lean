
/-
  mapped over a list of expressions: what it makes of each.
-/
import Derived.Test.YtccfbnhlhjlmgaaDoorEp
import Derived.Deep.LoopGhost
namespace Go.Proofs.YtccfbnhlhjlmgaaDoor
open Go.RowKit
set_option linter.unusedVariables false

/-- The function value g makes of each of these parts another one, in memory of its own or of the part's. -/
structure MapFn (w0 : World) (f : Nat) (caps : Array Value) (S : Nat → Prop) (d d' : Nat) (g : ExprD → ExprD) (xs : List ExprD) : Prop where
  enter : ∀ v W, (callFunc f (#[v] ++ caps)).run Tryd.prog W = .ok (.enter f (#[v] ++ caps)) W
  calls : ∀ x ∈ xs, ∀ cs W, Below w0.heap.size w0 W → ExprP d S W cs x → Calls Tryd.prog f (#[.agg cs.toArray] ++ caps) W fun e w' => ∃ cs', e = .returned (.agg cs'.toArray) ∧ ExprP d' (fun k => S k ∨ W.heap.size ≤ k) w' cs' (g x) ∧ Below W.heap.size W w'

theorem listP_place {R : World → List Value → ExprD → Prop} {S : Nat → Prop} {w : World} {a : Option Addr} {xs : List ExprD} (h : ListP R S w a xs) (hR : ∀ cs x, R w cs x → ∃ a c, cs = [.int .i64 x.op, .int .i64 x.n, .string x.name, .slice a x.kids.length c]) {i : Nat} (hi : i < xs.length) :
    ∃ b off k ka kc, a = some ⟨b, off, none⟩ ∧ xs[i]? = some k ∧ R w [.int .i64 k.op, .int .i64 k.n, .string k.name, .slice ka k.kids.length kc] k ∧
      w.cell? ⟨b, off + i * 4, none⟩ = some (.int .i64 k.op) ∧ w.cell? ⟨b, off + i * 4 + 1, none⟩ = some (.int .i64 k.n) ∧ w.cell? ⟨b, off + i * 4 + 2, none⟩ = some (.string k.name) ∧ w.cell? ⟨b, off + i * 4 + 3, none⟩ = some (.slice ka k.kids.length kc) := by
  obtain ⟨b, off, cs, k, rfl, hk, hl, hc, hRk⟩ := h.rd.place (by decide) hi
  obtain ⟨ka, kc, rfl⟩ := hR _ _ hRk
  exact ⟨b, off, k, ka, kc, rfl, hk, hRk, hc 0 _ rfl, hc 1 _ rfl, hc 2 _ rfl, hc 3 _ rfl⟩

set_option maxRecDepth 100000 in
set_option maxHeartbeats 4000000 in
theorem mapped_any (f : Nat) (caps : Array Value) (S : Nat → Prop) (d d' : Nat) (g : ExprD → ExprD) (a : Option Addr) (c : Nat) (xs : List ExprD) (w : World) (hin : ListP (ExprP d S) S w a xs) (hS : ∀ k, S k → k < w.heap.size) (hn : xs.length ≤ 1000000) (hf : MapFn w f caps S d d' g xs) :
    Calls Tryd.prog 101 #[.slice a xs.length c, .func (.func f) #[] caps] w fun e w' =>
      ∃ a' c', e = .returned (.slice a' xs.length c') ∧ ListP (ExprP d' (fun k => S k ∨ w.heap.size ≤ k)) (fun k => S k ∨ w.heap.size ≤ k) w' a' (xs.map g) ∧ Below w.heap.size w w' := by
  have hen := hf.enter
  have HF := Lib.hid (And.intro hf.calls (And.intro hin hS))
  have hn2 : xs.length ≤ 9223372036854775807 := by omega
  have HN := Lib.hid hn
  clear hf hin hS hn
  go_enter Tryd.func101, Tryd.ntmps101
  go_wp2_with fail
  go_loopg [5, 10] xs.length (fun G o i wr => ∃ (k : Nat) (oa : Option Addr) (oc : Nat), k + G = xs.length ∧ i = .int .i64 k ∧ o = .slice oa k oc ∧ Hid (ListG d' (fun b => S b ∨ w.heap.size ≤ b) w.heap.size wr oa k oc ((xs.take k).map g) ∧ Below w.heap.size w wr))
  case atStart => exact ⟨0, none, 0, by omega, rfl, rfl, Lib.hid ⟨by simpa using ListG.nil _ _ _ _, Below.refl _ _⟩⟩
  case round =>
    obtain ⟨k, oa, oc, hk, rfl, rfl, HB⟩ := hrel
    by_cases hlt : k < xs.length
    · have hki : (k : Int) < (xs.length : Int) := by omega
      obtain ⟨b, off, x, ka, kc, rfl, hx, hR, c0, c1, c2, c3⟩ := listP_place (HF.out.2.1) (fun _ _ h => exprP_form h) hlt
      have d0 := cell_later HB.out.2 c0
      have d1 := cell_later HB.out.2 c1
      have d2 := cell_later HB.out.2 c2
      have d3 := cell_later HB.out.2 c3
      have hba : Below wr.heap.size wr (wr.alloc (.cells #[.int .i64 x.op, .int .i64 x.n, .string x.name, .slice ka x.kids.length kc] 29)) := (Below.refl _ _).alloc (Nat.le_refl _) _
      have hrow := heap_alloc_new wr (.cells #[.int .i64 x.op, .int .i64 x.n, .string x.name, .slice ka x.kids.length kc] 29)
      have e0 := cell_of_row _ _ 0 _ _ _ hrow
      have e1 := cell_of_row _ _ 1 _ _ _ hrow
      have e2 := cell_of_row _ _ 2 _ _ _ hrow
      have e3 := cell_of_row _ _ 3 _ _ _ hrow
      simp only [List.getElem?_toArray, List.getElem?_cons_zero, List.getElem?_cons_succ] at e0 e1 e2 e3
      have hb1 := HB.out.2.trans (hba.mono HB.out.2.size)
      have HC := Lib.hid (HF.out.1 x (List.mem_of_getElem? hx) _ _ hb1 (exprP_below hb1 (exprP_lasts d S _ _ _ _ (Below.refl _ _) hR)))
      have HX := Lib.hid (And.intro hx (And.intro hb1 (HB.out.1.below hba)))
      clear hx hR hba hrow hb1 c0 c1 c2 c3
      go_wp2_with fail
      refine HC.out.mono ?_
      rintro e w2 ⟨cs', rfl, hx2, hb2⟩
      obtain ⟨ja, jc, hcs⟩ := exprP_form hx2
      subst hcs
      have HY := Lib.hid (show ExprP d' (fun b => (S b ∨ w.heap.size ≤ b) ∧ ¬ (Value.slice oa k oc).ownBlock = some b) (w2.alloc (.cells #[.int .i64 (g x).op, .int .i64 (g x).n, .string (g x).name, .slice ja (g x).kids.length jc] 29)) _ (g x) ∧ ListG d' (fun b => S b ∨ w.heap.size ≤ b) w.heap.size (w2.alloc (.cells #[.int .i64 (g x).op, .int .i64 (g x).n, .string (g x).name, .slice ja (g x).kids.length jc] 29)) oa k oc ((xs.take k).map g) ∧ Below w.heap.size w (w2.alloc (.cells #[.int .i64 (g x).op, .int .i64 (g x).n, .string (g x).name, .slice ja (g x).kids.length jc] 29)) from by
        have hba2 : Below w2.heap.size w2 (w2.alloc (.cells #[.int .i64 (g x).op, .int .i64 (g x).n, .string (g x).name, .slice ja (g x).kids.length jc] 29)) := (Below.refl _ _).alloc (Nat.le_refl _) _
        refine ⟨exprP_below hba2 (exprP_mono (fun i h1 h2 => ⟨?_, fun e => ?_⟩) hx2), (HX.out.2.2.below hb2).below hba2, (HX.out.2.1.trans (hb2.mono HX.out.2.1.size)).trans (hba2.mono (HX.out.2.1.trans (hb2.mono HX.out.2.1.size)).size)⟩
        · rcases h2 with h2 | h2
          · exact .inl h2
          · exact .inr (Nat.le_trans HX.out.2.1.size h2)
        · obtain ⟨⟨cells, k1, _⟩, _⟩ := HB.out.1
          have h3 := k1.lt i e
          rcases h2 with h2 | h2
          · have := HF.out.2.2 i h2; omega
          · rw [World.size_alloc] at h2; omega)
      obtain ⟨cells, hrows⟩ := HY.out.2.1.rows
      have HRW := Lib.hid hrows
      clear hrows hx2 hb2 d0 d1 d2 d3 e0 e1 e2 e3
      go_wp2_with (at_builtin; refine app_expr rfl (.tmp 14) (.tmp 18) rfl w.heap.size _ k _ rfl HRW.out.1 _ 1 [.int .i64 (g x).op, .int .i64 (g x).n, .string (g x).name, .slice ja (g x).kids.length jc] rfl (.inr ⟨_, _, rfl, fun i v hv => by (rw [cell_of_row _ _ (0 + i) _ _ _ (heap_alloc_new w2 _)]); simpa using hv⟩) rfl oneCell_expr (by have := HN.out; omega) HY.out.2.2.size ?_; intro a9 c9 w9 hown9 hg9 hlies9; (have HP9 := Lib.hid (show ListG d' (fun b => S b ∨ w.heap.size ≤ b) w.heap.size w9 a9 (k + 1) c9 ((xs.take (k + 1)).map g) ∧ Below w.heap.size w w9 from ⟨by (rw [take_succ_of HX.out.1, List.map_append]); exact HRW.out.push HY.out.2.1.length HY.out.1 hown9 hg9 hlies9, HY.out.2.2.grown hg9 HY.out.2.2.size (fun i hi => (HRW.out.1.lt i hi).1)⟩)); clear hown9 hg9 hlies9)
      go_roundg (gk - 1)
      case measure => omega
      case rel => exact ⟨k + 1, _, _, by omega, by go_num, rfl, HP9⟩
    · obtain rfl : k = xs.length := by omega
      have HL := Lib.hid (show ListP (ExprP d' (fun b => S b ∨ w.heap.size ≤ b)) (fun b => S b ∨ w.heap.size ≤ b) wr oa (xs.map g) by
        have h1 := HB.out.1.list
        rw [List.take_length] at h1
        exact h1.mono (fun _ _ _ h => exprP_mono (fun i _ h3 => h3.elim id .inr) h) (fun i _ h3 => h3.elim id .inr))
      go_wp2
      go_ret
      exact ⟨_, _, rfl, HL.out, HB.out.2⟩

end Go.Proofs.YtccfbnhlhjlmgaaDoor
