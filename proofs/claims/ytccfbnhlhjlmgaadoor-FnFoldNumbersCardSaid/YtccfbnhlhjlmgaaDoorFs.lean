
/-
  Folding (the reference's): l6Fold and FoldExpr.
-/
import Derived.Test.YtccfbnhlhjlmgaaDoorSp
import Derived.Test.YtccfbnhlhjlmgaaDoorEm
namespace Go.Proofs.YtccfbnhlhjlmgaaDoor
open Go.RowKit
set_option linter.unusedVariables false

theorem ListG.empty (d : Nat) (S : Nat → Prop) (lo : Nat) (w : World) (h : lo ≤ w.heap.size) : ListG d S lo (w.alloc (.cells #[] 29)) (some ⟨w.heap.size, 0, none⟩) 0 0 [] :=
  ⟨⟨[], own_empty w lo 29 4 h, rfl, by simp, by simp⟩, rfl⟩

theorem TwoE.turned {w wr w' : World} {op n : Int} {s : ByteArray} {v : Value} {T : Nat → Prop} (h : TwoE w op n s v wr) (ht : Turned T wr w') (hT : ∀ k, T k → w.heap.size + 2 ≤ k) : TwoE w op n s v w' :=
  ⟨(ht.block _ (by have := h.size; omega) (fun h1 => by have := hT _ h1; omega)).trans h.p, (ht.block _ (by have := h.size; omega) (fun h1 => by have := hT _ h1; omega)).trans h.r,
   h.below.trans (ht.below (B := w.heap.size) h.below.size (fun i hi => by have := hT i hi; omega)), Nat.le_trans h.size ht.size⟩
theorem TwoE.grown {w wr w' : World} {op n : Int} {s : ByteArray} {v : Value} {o : Option Nat} (h : TwoE w op n s v wr) (hg : wr.grownBy w' o) (hT : ∀ k, o = some k → w.heap.size + 2 ≤ k) : TwoE w op n s v w' :=
  h.turned (turned_of_grown hg (S := fun k => o = some k) (fun k hk => hk)) hT

set_option maxRecDepth 100000 in
set_option maxHeartbeats 4000000 in
theorem l6Fold_any : ∀ (m : Nat) (S : Nat → Prop) (cs : List Value) (x : ExprD) (w : World), m ≤ 6 → OpsAt w → KeysAt w → sizeD nameD m x ≠ none → ExprP m S w cs x → (∀ k, S k → k < w.heap.size) →
    Calls Tryd.prog 102 #[.agg cs.toArray] w fun e w' => ∃ cs', e = .returned (.agg (List.toArray cs')) ∧ ExprP m (fun k => S k ∨ w.heap.size ≤ k) w' cs' (foldD m x) ∧ Below w.heap.size w w' := by
  intro m
  induction m with
  | zero => exact fun _ _ _ _ _ _ _ h => absurd rfl h
  | succ m ih =>
  intro S cs x w hm6 hO hKy hs hx hS
  have hkv : ∀ k ∈ x.kids, sizeD nameD m k ≠ none := fun k hk => by
    obtain ⟨m', hm, _, h1⟩ := size_parts hs
    cases hm
    exact h1 k hk
  have hlen : x.kids.length ≤ 3 := by
    obtain ⟨m', hm, hh, _⟩ := size_parts hs
    exact head_kids hh
  have hmv := mapped_valid (d := m) hs
  obtain ⟨ka, kc, rfl, ⟨_, hop⟩, hks⟩ := hx
  obtain ⟨op, n, name, kids⟩ := x
  simp only [ExprD.op, ExprD.n, ExprD.name, ExprD.kids] at *
  have HT := Lib.hid (TwoE.start w op n name (.slice ka kids.length kc))
  have HK := Lib.hid (And.intro hkv (And.intro hks (And.intro hS (And.intro hop hlen))))
  have HC := Lib.hid (And.intro hO (And.intro hKy (And.intro hmv hm6)))
  have HIH := Lib.hid ih
  clear hs hkv hks hS hop hO hKy hmv ih hm6
  obtain ⟨y, hy⟩ : ∃ y, y = partF (.mk op n name (kids.map (foldD m))) := ⟨_, rfl⟩
  have HY := Lib.hid hy
  have HYR := Lib.hid (show foldD (m + 1) (.mk op n name kids) = y from hy.symm ▸ rfl)
  clear hy
  show Calls _ _ #[.agg #[.int .i64 op, .int .i64 n, .string name, .slice ka kids.length kc]] w _
  rw [HYR.out]
  go_enter Tryd.func102, Tryd.ntmps102
  go_upto_region 1 with fail
  generalize (w.alloc (.cells #[.int .i64 op, .int .i64 n, .string name, .slice ka kids.length kc] 29)).alloc (.cells #[.int .i64 0, .int .i64 0, .string ⟨#[]⟩, .slice none 0 0] 29) = W1 at HT ⊢
  have hba : Below W1.heap.size W1 (W1.alloc (.cells #[] 29)) := (Below.refl _ _).alloc (Nat.le_refl _) _
  have HT2 := Lib.hid (HT.out.later hba)
  have HB2 := Lib.hid (Below.refl (W1.alloc (.cells #[] 29)).heap.size (W1.alloc (.cells #[] 29)))
  have HG2 := Lib.hid (ListG.empty m (fun b => S b ∨ w.heap.size + 2 ≤ b) W1.heap.size W1 (Nat.le_refl _))
  have HS1 := Lib.hid (HT.out.size)
  have HKW := Lib.hid (listP_turned (T := fun k => w.heap.size ≤ k) HK.out.2.1 (turned_of_below HT2.out.below (fun k h1 _ => h1)) (fun k h1 _ h2 => by omega) (fun _ _ _ h => exprP_below HT2.out.below h))
  have HZ2 := Lib.hid (show W1.heap.size < (W1.alloc (.cells #[] 29)).heap.size by simp)
  clear hba
  go_upto_region 2 with fail
  obtain ⟨oa0, hoa⟩ : ∃ x, x = some (⟨W1.heap.size, 0, none⟩ : Addr) := ⟨_, rfl⟩
  rw [← hoa] at HG2 ⊢
  generalize W1.alloc (.cells #[] 29) = W2 at HT2 HB2 HG2 HKW HZ2 ⊢
  clear hoa
  have p3 := HT2.out.p3
  go_wp2_with fail
  go_loopg [3, 4] kids.length (fun G o i wr => ∃ (k : Nat) (oa : Option Addr) (oc : Nat), k + G = kids.length ∧ i = .int .i64 k ∧ o = .slice oa k oc ∧ Hid (ListG m (fun b => S b ∨ w.heap.size + 2 ≤ b) W1.heap.size wr oa k oc ((kids.take k).map (foldD m)) ∧ TwoE w op n name (.slice ka kids.length kc) wr ∧ W2.heap.size ≤ wr.heap.size))
  case atStart => exact ⟨0, oa0, 0, by omega, rfl, rfl, Lib.hid ⟨HG2.out, HT2.out, Nat.le_refl _⟩⟩
  case round =>
    obtain ⟨k, oa, oc, hk, rfl, rfl, HB⟩ := hrel
    clear p3
    have p3 := HB.out.2.1.p3
    by_cases hlt : k < kids.length
    · have hki : (k : Int) < (kids.length : Int) := by omega
      obtain ⟨b, off, x, ja, jc, rfl, hx, hR, c0, c1, c2, c3⟩ := listP_place (listP_turned (T := fun k => w.heap.size ≤ k) HK.out.2.1 (turned_of_below HB.out.2.1.below (fun k h1 _ => h1)) (fun k h1 _ h2 => by omega) (fun _ _ _ h => exprP_below HB.out.2.1.below h)) (fun _ _ h => exprP_form h) hlt
      have hbW := HB.out.2.1.below
      have HC2 := Lib.hid (HIH.out S _ x wr (by have := HC.out.2.2.2; omega) (HC.out.1.later hbW) (HC.out.2.1.later hbW) (HK.out.1 x (List.mem_of_getElem? hx)) hR (fun k h => Nat.lt_of_lt_of_le (HK.out.2.2.1 k h) hbW.size))
      have HX := Lib.hid hx
      clear hx hR hbW
      go_wp2_with fail
      refine HC2.out.mono ?_
      rintro e w2 ⟨cs', rfl, hx2, hb2⟩
      obtain ⟨ya, yc, hcs⟩ := exprP_form hx2
      subst hcs
      obtain ⟨g, hg⟩ : ∃ g, g = foldD m x := ⟨_, rfl⟩
      rw [← hg] at hx2 ⊢
      have HGX := Lib.hid hg
      clear hg
      have HY := Lib.hid (show ExprP m (fun b => (S b ∨ w.heap.size + 2 ≤ b) ∧ ¬ (Value.slice oa k oc).ownBlock = some b) (w2.alloc (.cells #[.int .i64 g.op, .int .i64 g.n, .string g.name, .slice ya g.kids.length yc] 29)) _ g ∧ ListG m (fun b => S b ∨ w.heap.size + 2 ≤ b) W1.heap.size (w2.alloc (.cells #[.int .i64 g.op, .int .i64 g.n, .string g.name, .slice ya g.kids.length yc] 29)) oa k oc ((kids.take k).map (foldD m)) ∧ TwoE w op n name (.slice (some ⟨b, off, none⟩) kids.length kc) (w2.alloc (.cells #[.int .i64 g.op, .int .i64 g.n, .string g.name, .slice ya g.kids.length yc] 29)) ∧ W2.heap.size ≤ (w2.alloc (.cells #[.int .i64 g.op, .int .i64 g.n, .string g.name, .slice ya g.kids.length yc] 29)).heap.size from by
        have hba2 : Below w2.heap.size w2 (w2.alloc (.cells #[.int .i64 g.op, .int .i64 g.n, .string g.name, .slice ya g.kids.length yc] 29)) := (Below.refl _ _).alloc (Nat.le_refl _) _
        refine ⟨exprP_below hba2 (exprP_mono (fun i h1 h2 => ⟨?_, fun e => ?_⟩) hx2), (HB.out.1.below hb2).below hba2, (HB.out.2.1.later hb2).later hba2, Nat.le_trans HB.out.2.2 (Nat.le_trans hb2.size hba2.size)⟩
        · rcases h2 with h2 | h2
          · exact .inl h2
          · exact .inr (Nat.le_trans HB.out.2.1.size h2)
        · obtain ⟨⟨cells, k1, _⟩, _⟩ := HB.out.1
          have h3 := k1.lt i e
          rcases h2 with h2 | h2
          · have := HK.out.2.2.1 i h2; have := HS1.out; omega
          · omega)
      obtain ⟨cells, hrows⟩ := HY.out.2.1.rows
      have HRW := Lib.hid hrows
      have HKL := Lib.hid (show k ≤ 3 by omega)
      have HTK := Lib.hid (show (kids.take (k + 1)).map (foldD m) = (kids.take k).map (foldD m) ++ [g] by rw [take_succ_of HX.out, List.map_append, HGX.out]; rfl)
      have HLO := Lib.hid (show W1.heap.size ≤ (w2.alloc (.cells #[.int .i64 g.op, .int .i64 g.n, .string g.name, .slice ya g.kids.length yc] 29)).heap.size by have := HZ2.out; have := HY.out.2.2.2; omega)
      clear hrows hx2 hb2 c0 c1 c2 c3 p3
      go_wp2_with (at_builtin; refine app_expr rfl (.tmp 13) (.tmp 20) rfl W1.heap.size _ k _ rfl HRW.out.1 _ 1 [.int .i64 g.op, .int .i64 g.n, .string g.name, .slice ya g.kids.length yc] rfl (.inr ⟨_, _, rfl, fun i v hv => by (rw [cell_of_row _ _ (0 + i) _ _ _ (heap_alloc_new w2 _)]); simpa using hv⟩) rfl oneCell_expr (by have := HKL.out; omega) HLO.out ?_; intro a9 c9 w9 hown9 hg9 hlies9; (have HP9 := Lib.hid (show ListG m (fun b => S b ∨ w.heap.size + 2 ≤ b) W1.heap.size w9 a9 (k + 1) c9 ((kids.take (k + 1)).map (foldD m)) ∧ TwoE w op n name (.slice (some ⟨b, off, none⟩) kids.length kc) w9 ∧ W2.heap.size ≤ w9.heap.size from ⟨by (rw [HTK.out]); exact HRW.out.push HY.out.2.1.length HY.out.1 hown9 hg9 hlies9, HY.out.2.2.1.grown (o := (Value.slice oa k oc).ownBlock) hg9 (fun i hi => by have := (HRW.out.1.lt i hi).1; have := HS1.out; omega), Nat.le_trans HY.out.2.2.2 (turned_of_grown hg9 (S := fun q => (Value.slice oa k oc).ownBlock = some q) (fun q hq => hq)).size⟩)); clear hown9 hg9 hlies9)
      go_roundg (gk - 1)
      case measure => omega
      case rel => exact ⟨k + 1, _, _, by omega, by go_num, rfl, HP9⟩
    · obtain rfl : k = kids.length := by omega
      have HL := Lib.hid (show ListP (ExprP m (fun b => (S b ∨ w.heap.size + 2 ≤ b))) (fun b => (S b ∨ w.heap.size + 2 ≤ b)) wr oa (kids.map (foldD m)) by
        have h1 := HB.out.1.list
        rw [List.take_length] at h1
        exact h1.mono (fun _ _ _ h => exprP_mono (fun i _ h3 => h3.elim id (fun h => .inr (by have := HS1.out; omega))) h) (fun i _ h3 => h3.elim id (fun h => .inr (by have := HS1.out; omega))))
      have HT3 := Lib.hid HB.out.2.1
      clear p3 HB
      have q3 := HT3.out.p3
      have qf := HT3.out.pf 3
      go_upto_region 7 with fail
      have HT4 := Lib.hid (HT3.out.setP (.slice oa kids.length oc))
      have HL4 := Lib.hid (listP_turned (T := fun k => k = w.heap.size) HL.out (turned_store wr w.heap.size 3 (.slice oa kids.length oc)) (fun k h1 h2 h3 => by subst h3; rcases h2 with h2 | h2; exact absurd (HK.out.2.2.1 _ h2) (by omega); omega) (fun _ _ _ h => exprP_turned (turned_store wr w.heap.size 3 (.slice oa kids.length oc)) (fun k h1 h2 h3 => by subst h3; rcases h2 with h2 | h2; exact absurd (HK.out.2.2.1 _ h2) (by omega); omega) h))
      clear q3 qf
      generalize wr.setCell ⟨w.heap.size, 3, none⟩ (.slice oa kids.length oc) = W3 at HT4 HL4 ⊢
      have p0 := HT4.out.p0
      have p1 := HT4.out.p1
      have p2 := HT4.out.p2
      have p3 := HT4.out.p3
      have hlm : (kids.map (foldD m)).length = kids.length := List.length_map _
      have hx3 : ExprP (m + 1) (fun k => (S k ∨ w.heap.size + 2 ≤ k) ∧ k < W3.heap.size) W3 [.int .i64 op, .int .i64 n, .string name, .slice oa kids.length oc] (.mk op n name (kids.map (foldD m))) :=
        exprP_here ⟨oa, oc, by show _ = [_, _, _, Value.slice oa (kids.map (foldD m)).length oc]; rw [hlm]; rfl, ⟨by show (kids.map (foldD m)).length ≤ maxLen; rw [hlm]; exact Nat.le_trans HK.out.2.2.2.2 (by decide), HK.out.2.2.2.1⟩, HL4.out⟩
      have HFP := Lib.hid (l6Part_any (m + 1) _ _ _ W3 HC.out.2.2.2 (HC.out.1.later HT4.out.below) (HC.out.2.1.later HT4.out.below) HC.out.2.2.1 hx3 (fun k h => h.2))
      rw [← HY.out] at HFP
      clear hx3 hlm
      go_wp2_with fail
      refine HFP.out.mono ?_
      rintro e w4 ⟨cs4, rfl, hx4, hb4⟩
      have HF := Lib.hid (exprP_form hx4)
      have HT5 := Lib.hid (HT4.out.later hb4)
      have HX4 := Lib.hid hx4
      obtain ⟨ya, yc, hcs⟩ := HF.out
      subst hcs
      clear hx4 hb4 HF p0 p1 p2 p3 HFP
      have z0 := HT5.out.z0
      have z1 := HT5.out.z1
      have z2 := HT5.out.z2
      have z3 := HT5.out.z3
      have f0 := HT5.out.zf 0
      have f1 := HT5.out.zf 1
      have f2 := HT5.out.zf 2
      have f3 := HT5.out.zf 3
      go_wp2
      have hput := HT5.out.put (cs := [.int .i64 y.op, .int .i64 y.n, .string y.name, .slice ya y.kids.length yc]) rfl
      have hdone := HT5.out.done (fun k h => h.1.elim (fun h => .inl (HK.out.2.2.1 k h)) .inr) HX4.out
      rw [setCells4'] at hput hdone
      refine bodyPost_ret (results_cell_row rfl _ _ (w.heap.size + 1) 29 #[.int .i64 y.op, .int .i64 y.n, .string y.name, .slice ya y.kids.length yc] (0, 0) _ rfl ?_ Tryd.underlying29 rfl (by kernel_rfl)) rfl ?_
      · exact hput
      exact ⟨_, rfl, exprP_mono (fun k _ h => h.1.elim .inl (fun h => .inr (by omega))) hdone.1, hdone.2⟩

set_option maxRecDepth 100000 in
set_option maxHeartbeats 4000000 in
theorem foldExprS_any (d : Nat) (S : Nat → Prop) (cs : List Value) (x : ExprD) (w : World) (hO : OpsAt w) (hK : KeysAt w) (hx : ExprP d S w cs x) (hL : anyE longP d x = false) (hS : ∀ k, S k → k < w.heap.size) :
    Calls Tryd.prog 50 #[.agg cs.toArray] w fun e w' => ∃ cs', e = .returned (.tuple #[.agg (List.toArray cs'), .bool (sizeD nameD 6 x).isSome]) ∧ ExprP 6 (fun k => S k ∨ w.heap.size ≤ k) w' cs' (foldE x) ∧ Below w.heap.size w w' := by
  obtain ⟨xa, xc, rfl⟩ := exprP_form hx
  obtain ⟨y, hy⟩ : ∃ y, y = foldE x := ⟨_, rfl⟩
  have HY := Lib.hid hy
  rw [← hy]
  clear hy
  obtain ⟨bv, hbv⟩ : ∃ b, b = (sizeD nameD 6 x).isSome := ⟨_, rfl⟩
  rw [← hbv]
  have HBV := Lib.hid hbv
  clear hbv
  have HT := Lib.hid (TwoE.start w x.op x.n x.name (.slice xa x.kids.length xc))
  have HI := Lib.hid (And.intro hx (And.intro hS (And.intro hO (And.intro hK hL))))
  clear hx hS hO hK hL
  go_enter Tryd.func50, Tryd.ntmps50
  go_upto_region 1 with fail
  generalize (w.alloc (.cells #[.int .i64 x.op, .int .i64 x.n, .string x.name, .slice xa x.kids.length xc] 29)).alloc (.cells #[.int .i64 0, .int .i64 0, .string ⟨#[]⟩, .slice none 0 0] 29) = W1 at HT ⊢
  have p0 := HT.out.p0
  have p1 := HT.out.p1
  have p2 := HT.out.p2
  have p3 := HT.out.p3
  have hV := exprValidS_any d _ x W1 (exprP_at (exprP_below HT.out.below HI.out.1)) HI.out.2.2.2.2
  cases hv : (sizeD nameD 6 x).isSome with
  | false =>
    rw [hv] at hV
    have HB2 := Lib.hid (HBV.out.trans hv)
    have HV := Lib.hid hV
    have HYE := Lib.hid (show y = .mk 0 0 ⟨#[]⟩ [] by rw [HY.out, foldE, hv]; rfl)
    clear hV hv
    go_wp2_with fail
    refine HV.out.mono ?_
    rintro e w2 ⟨rfl, hb2⟩
    have HT2 := Lib.hid (HT.out.later hb2)
    clear hb2 p0 p1 p2 p3
    have z0 := HT2.out.z0
    have z1 := HT2.out.z1
    have z2 := HT2.out.z2
    have z3 := HT2.out.z3
    have f0 := HT2.out.zf 0
    have f1 := HT2.out.zf 1
    have f2 := HT2.out.zf 2
    have f3 := HT2.out.zf 3
    go_wp2
    have hput := HT2.out.put (cs := [.int .i64 0, .int .i64 0, .string ⟨#[]⟩, .slice none 0 0]) rfl
    have hdone := HT2.out.done (S := fun _ => False) (fun _ h => h.elim) (leafP (w := w2) (S := fun _ => False) 0 0 ⟨#[]⟩ (by decide) 5)
    rw [setCells4'] at hput hdone
    refine bodyPost_ret (results_cell2 rfl _ _ (w.heap.size + 1) 29 #[.int .i64 0, .int .i64 0, .string ⟨#[]⟩, .slice none 0 0] (0, 0) _ rfl ?_ Tryd.underlying29 rfl (by kernel_rfl)) rfl ?_
    · exact hput
    exact ⟨_, (by rw [HB2.out] <;> rfl), by rw [HYE.out]; exact exprP_mono (fun k _ h => h.elim) hdone.1, hdone.2⟩
  | true =>
    rw [hv] at hV
    have HB2 := Lib.hid (HBV.out.trans hv)
    have HV := Lib.hid hV
    have hs : sizeD nameD 6 x ≠ none := fun h => by rw [h] at hv; cases hv
    have HYE := Lib.hid (And.intro (show y = foldD 6 x by rw [HY.out, foldE, hv]; rfl) hs)
    clear hV hv hs
    go_wp2_with fail
    refine HV.out.mono ?_
    rintro e w2 ⟨rfl, hb2⟩
    have HT2 := Lib.hid (HT.out.later hb2)
    clear hb2 p0 p1 p2 p3
    have p0 := HT2.out.p0
    have p1 := HT2.out.p1
    have p2 := HT2.out.p2
    have p3 := HT2.out.p3
    have HFD := Lib.hid (l6Fold_any 6 S _ x w2 (Nat.le_refl 6) (HI.out.2.2.1.later HT2.out.below) (HI.out.2.2.2.1.later HT2.out.below) HYE.out.2 (exprP_fit HYE.out.2 (exprP_below HT2.out.below HI.out.1)) (fun k h => Nat.lt_of_lt_of_le (HI.out.2.1 k h) HT2.out.below.size))
    rw [← HYE.out.1] at HFD
    go_wp2_with fail
    refine HFD.out.mono ?_
    rintro e w4 ⟨cs4, rfl, hx4, hb4⟩
    have HF := Lib.hid (exprP_form hx4)
    have HT4 := Lib.hid (HT2.out.later hb4)
    have HX4 := Lib.hid hx4
    obtain ⟨ya, yc, hcs⟩ := HF.out
    subst hcs
    clear hx4 hb4 HF p0 p1 p2 p3 HFD
    have z0 := HT4.out.z0
    have z1 := HT4.out.z1
    have z2 := HT4.out.z2
    have z3 := HT4.out.z3
    have f0 := HT4.out.zf 0
    have f1 := HT4.out.zf 1
    have f2 := HT4.out.zf 2
    have f3 := HT4.out.zf 3
    go_wp2
    have hput := HT4.out.put (cs := [.int .i64 y.op, .int .i64 y.n, .string y.name, .slice ya y.kids.length yc]) rfl
    have hdone := HT4.out.done (fun k (h : S k ∨ w2.heap.size ≤ k) => h.elim (fun h => .inl (HI.out.2.1 k h)) (fun h => .inr (Nat.le_trans HT2.out.size h))) HX4.out
    rw [setCells4'] at hput hdone
    refine bodyPost_ret (results_cell2 rfl _ _ (w.heap.size + 1) 29 #[.int .i64 y.op, .int .i64 y.n, .string y.name, .slice ya y.kids.length yc] (0, 0) _ rfl ?_ Tryd.underlying29 rfl (by kernel_rfl)) rfl ?_
    · exact hput
    exact ⟨_, (by rw [HB2.out] <;> rfl), exprP_mono (fun k _ (h : S k ∨ w2.heap.size ≤ k) => h.elim .inl (fun h => .inr (by have := HT2.out.size; omega))) hdone.1, hdone.2⟩

end Go.Proofs.YtccfbnhlhjlmgaaDoor
