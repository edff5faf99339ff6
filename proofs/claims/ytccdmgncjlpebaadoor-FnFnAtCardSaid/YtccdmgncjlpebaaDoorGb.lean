/-
  The reference draws programs: statements are put at the end of a list; a block.
-/
import Derived.Test.YtccdmgncjlpebaaDoorGn
import Derived.Deep.LoopGhost

namespace Go.Proofs.YtccdmgncjlpebaaDoor
open Go.RowKit
set_option linter.unusedVariables false

theorem info_stmtI : (Tryd.prog.info? 57).map (fun i => (i.zero, i.size, i.bytes)) = some (some (.agg #[.int .i64 0, .string ⟨#[]⟩, .slice none 0 0, .slice none 0 0, .slice none 0 0]), 5, 96) := by kernel_rfl
theorem und_stmtsI : Tryd.prog.underlying 30 = some (.slice 57) := by kernel_rfl
theorem flat_len {α : Type} {s : Nat} : ∀ {cs : List (List α)}, (∀ c ∈ cs, c.length = s) → cs.flatten.length = cs.length * s
  | [], _ => by simp
  | c :: cs, h => by rw [List.flatten_cons, List.length_append, flat_len (fun d hd => h d (List.mem_cons_of_mem _ hd)), h c List.mem_cons_self, List.length_cons, Nat.add_mul]; omega
section
variable {w : World} {ops : Array Oper} {rest : List Oper} {o : Oper} {a : Act} {Q : Exit → Act → World → Prop}
/-- append of statements. -/
theorem app_stmts (hgd : o.guard = none) (s x : Operand) (ho : o.op = .call { callee := .builtin .append, args := #[s, x], argTypes := #[30, 30] })
    (base : Nat) (v : Value) (n : Nat) (xs : List Value) (hs : a.eval s = v) (hown : w.ownsRow base 57 5 v n xs)
    (ao : Option Addr) (m c : Nat) (cells : List (List Value)) (hx : a.eval x = .slice ao m c) (hrow : RowAt w ao cells.flatten) (hm : cells.length = m) (hl : ∀ cl ∈ cells, cl.length = 5) (hnil : ao = none → c = 0) (hone : ∀ cl ∈ cells, ∀ u ∈ cl, u.oneCell' = true)
    (hb : n + m ≤ 1099511627776) (hbase : base ≤ w.heap.size)
    (h : ∀ a' c' w', w'.ownsRow base 57 5 (.slice a' (n + m) c') (n + m) (xs ++ cells.flatten) → w.grownBy w' v.ownBlock →
      ((Value.slice a' (n + m) c').ownBlock = v.ownBlock ∨ (Value.slice a' (n + m) c').ownBlock = some w.heap.size) → wpList Tryd.prog ops Q rest (a.put o.dst (.slice a' (n + m) c')) w') : wpList Tryd.prog ops Q (o :: rest) a w := by
  obtain ⟨i0, hi, hz0, hz1, hz2⟩ := info_parts info_stmtI
  exact wpList_append_any hgd s x 30 ho base 57 i0 (.agg #[.int .i64 0, .string ⟨#[]⟩, .slice none 0 0, .slice none 0 0, .slice none 0 0]) 5 96 und_stmtsI hi hz0 hz1 hz2 rfl (by decide) v n xs hs hown ao m c _ hx (by rw [flat_len hl, hm]) hrow hnil (by
    intro u hu
    obtain ⟨cl, h1, h2⟩ := List.mem_flatten.1 hu
    exact hone cl h1 u h2) (by unfold maxLen; omega) (by omega) hbase h
end
section
variable {w : World} {ops : Array Oper} {o : Oper} {a : Act} {K : Act → World → Prop} {E : Prop} {Q : Exit → Act → World → Prop}
theorem step_app_stmts (hgd : o.guard = none) (s x : Operand) (ho : o.op = .call { callee := .builtin .append, args := #[s, x], argTypes := #[30, 30] })
    (base : Nat) (v : Value) (n : Nat) (xs : List Value) (hs : a.eval s = v) (hown : w.ownsRow base 57 5 v n xs)
    (ao : Option Addr) (m c : Nat) (cells : List (List Value)) (hx : a.eval x = .slice ao m c) (hrow : RowAt w ao cells.flatten) (hm : cells.length = m) (hl : ∀ cl ∈ cells, cl.length = 5) (hnil : ao = none → c = 0) (hone : ∀ cl ∈ cells, ∀ u ∈ cl, u.oneCell' = true)
    (hb : n + m ≤ 1099511627776) (hbase : base ≤ w.heap.size)
    (h : ∀ a' c' w', w'.ownsRow base 57 5 (.slice a' (n + m) c') (n + m) (xs ++ cells.flatten) → w.grownBy w' v.ownBlock →
      ((Value.slice a' (n + m) c').ownBlock = v.ownBlock ∨ (Value.slice a' (n + m) c').ownBlock = some w.heap.size) → K (a.put o.dst (.slice a' (n + m) c')) w') :
    if Region.wanted o (yielded ops a.tmps) = true then Oper.wp Tryd.prog o a w K Q else E := by
  obtain ⟨i0, hi, hz0, hz1, hz2⟩ := info_parts info_stmtI
  exact step_append_any hgd s x 30 ho base 57 i0 (.agg #[.int .i64 0, .string ⟨#[]⟩, .slice none 0 0, .slice none 0 0, .slice none 0 0]) 5 96 und_stmtsI hi hz0 hz1 hz2 rfl (by decide) v n xs hs hown ao m c _ hx (by rw [flat_len hl, hm]) hrow hnil (by
    intro u hu
    obtain ⟨cl, h1, h2⟩ := List.mem_flatten.1 hu
    exact hone cl h1 u h2) (by unfold maxLen; omega) (by omega) hbase h
end
theorem stmt_oneCell {d : Nat} {S : Nat → Prop} {w : World} {cl : List Value} {x : StmtD} (h : StmtP d S w cl x) : ∀ u ∈ cl, u.oneCell' = true := by
  obtain ⟨aa, ac, ba, bc, ea, ec, rfl⟩ := stmtP_form h
  intro u hu
  simp only [List.mem_cons, List.not_mem_nil, or_false] at hu
  rcases hu with rfl | rfl | rfl | rfl | rfl <;> rfl

theorem GrowK.keep {α : Type} {s : Nat} {R : InRel α} (hR : Stays s R) {e : TypeId} {S T : Nat → Prop} {lo : Nat} {w w' : World} {a : Option Addr} {n c : Nat} {xs : List α} (h : GrowK s R e S lo w a n c xs) (ht : Turned T w w') (hT : ∀ k, lo ≤ k → k < w.heap.size → ¬ T k) (hS : ∀ k, S k → lo ≤ k) : GrowK s R e S lo w' a n c xs := by
  obtain ⟨cells, k1, -⟩ := h.row
  exact h.turned hR ht (fun k hk => hT k (k1.lt k hk).1 (k1.lt k hk).2) (fun k hk h1 => hT k (hS k h1) hk)

section
variable {w0 : World} {br bg : Nat} {a : Option Addr} {len cap : Nat} {bs : List Int} {fa : Option Addr} {fc : Nat} {fns : List FnD}
set_option maxRecDepth 100000 in
set_option maxHeartbeats 4000000 in
theorem gblock_any (hlen : len ≤ 2000) (dq : Int) (d cS : Nat) (F : GS → List StmtD × GS) (hS : SomeC w0 br bg a len cap bs fa fc fns dq d cS F) : BlockC w0 br bg a len cap bs fa fc fns dq d (4 * cS + 1) (blockF bs F) := by
  intro u va vc vars next left w h hv hu
  have HU := Lib.hid hu
  have HVC := Lib.hid hv
  have HS := Lib.hid hS
  have HL := Lib.hid h.lts
  have HW0 := Lib.hid (show w0.heap.size ≤ w.heap.size from by obtain ⟨p, _, hp⟩ := h.rd; exact hp.below.size)
  have c0 := h.c0
  have c2 := h.c2
  have H0 := Lib.hid h
  clear hv hu hS h
  go_enter Tryd.func52, Tryd.ntmps52
  go_upto_region 3 with fail
  clear c2
  have HE := Lib.hid (GrowK.empty (s := 5) (R := StmtP d) (e := 57) (fun k => w.heap.size ≤ k) w.heap.size w (Nat.le_refl _))
  have HB1 := Lib.hid (show Below w.heap.size w (w.alloc (.cells #[] 57)) from (Below.refl _ _).alloc (Nat.le_refl _) _)
  have HPA := Lib.hid (show posOf (w.alloc (.cells #[] 57)) br = posOf w br from posOf_alloc HL.out.1)
  have HSZ := Lib.hid (show (w.alloc (.cells #[] 57)).heap.size = w.heap.size + 1 from World.size_alloc _ _)
  obtain ⟨ob, hob⟩ : ∃ n, n = w.heap.size := ⟨_, rfl⟩
  generalize w.alloc (.cells #[] 57) = W1 at HE HB1 HSZ HPA ⊢
  have HG1 := Lib.hid (H0.out.later HB1.out)
  have HOB := Lib.hid hob
  replace HE := Lib.hid (show GrowK 5 (StmtP d) 57 (fun k => w.heap.size ≤ k) w.heap.size W1 (some ⟨ob, 0, none⟩) 0 0 [] from by rw [hob]; exact HE.out)
  rw [← hob]
  clear hob
  obtain ⟨p, hp, hrd⟩ := HG1.out.rd
  have HP := Lib.hid hp
  have c0 := HG1.out.c0
  have HNUM := Lib.hid (show Calls Tryd.prog 28 #[.pointer (some ⟨br, 0, none⟩), .slice (some ⟨W1.heap.size, 0, none⟩) 4 4] (W1.alloc (.cells #[.int .i64 2, .int .i64 3, .int .i64 1, .int .i64 4] 3)) fun e W' => ∃ v : Nat, e = .returned (.int .i64 v) ∧ v ≤ 4 ∧ Hid (GSt w0 br bg a len cap bs fa fc fns (u + 1) va vc vars next left W' ∧ Turn2 br bg W1 W' ∧ numF bs [2, 3, 1, 4] (posOf w br) = (v : Int) ∧ posOf W' br = posOf w br + 1) from by
    refine (num_fun w0 _ br a len cap bs p W1.heap.size 4 4 [2, 3, 1, 4] (hrd.later' ((Below.refl _ _).alloc (Nat.le_refl _) _)) (litI W1 [2, 3, 1, 4]) (by have := HG1.out.lts; omega) (by omega) hlen (by have := HP.out; have := HU.out; omega)).mono ?_
    rintro e W' ⟨v, hv, rfl, hrd', hg', hFv⟩
    have hpw : posOf w br = p := by rw [← HPA.out, hrd.pos]
    simp only [List.mem_cons, List.not_mem_nil, or_false] at hv
    refine ⟨v.toNat, by rcases hv with rfl | rfl | rfl | rfl <;> rfl, by omega, Lib.hid ⟨(HG1.out.alloc _).step (TurnR.grown hg') hrd' (by have := HP.out; omega) (by omega), (Turn2.alloc W1 _).trans (Turn2.of (TurnR.grown hg')), by rw [hpw, hFv]; rcases hv with rfl | rfl | rfl | rfl <;> rfl, by rw [hpw, hrd'.pos]⟩⟩)
  clear hrd hp
  go_wp2_with fail
  refine HNUM.out.mono ?_
  rintro e w3 ⟨v, rfl, hv4, hx3⟩
  have HE3 := Lib.hid (HE.out.turned (stmtP_stays d) (T := fun k => k = br ∨ k = bg ∨ W1.heap.size ≤ k) hx3.out.2.1 (fun k hk => by simp only [Value.ownBlock, Option.some.injEq] at hk; have := HL.out; have := HOB.out; have := HSZ.out; omega) (fun k hk h => by have := HL.out; have h : w.heap.size ≤ k := h; omega))
  have HR0 := Lib.hid (show blockF bs F ⟨posOf w br, vars, next, left⟩ = ((roundsF F v [] ⟨posOf w3 br, vars, next, left⟩).1, ⟨(roundsF F v [] ⟨posOf w3 br, vars, next, left⟩).2.p, vars, (roundsF F v [] ⟨posOf w3 br, vars, next, left⟩).2.next, (roundsF F v [] ⟨posOf w3 br, vars, next, left⟩).2.left⟩) by
    simp only [blockF, hx3.out.2.2.1, hx3.out.2.2.2, Int.toNat_natCast])
  have HT3 := Lib.hid ((Turn2.below HB1.out : Turn2 br bg w W1).trans hx3.out.2.1)
  have HV3 := Lib.hid (HT3.out.list strP_stays ((H0.out.vlist.here strP_stays).mono (S' := fun j => j ≠ br ∧ j ≠ bg ∧ ¬ (Value.slice (some ⟨ob, 0, none⟩) 0 0).ownBlock = some j) strP_stays (fun k _ h => ⟨h.1.1, h.1.2, fun e => by simp only [Value.ownBlock, Option.some.injEq] at e; have := HOB.out; have := h.2; omega⟩)) (fun k h => ⟨h.1, h.2.1⟩))
  clear c0 HNUM
  go_wp2_with fail
  go_loopg [6, 7] v (fun G o i wr => ∃ (k : Nat) (b' : Option Addr) (c : Nat) (xs : List StmtD) (va' : Option Addr) (vc' : Nat) (vars' : List ByteArray) (next' left' : Int), k = G ∧ i = .int .i64 k ∧ o = .slice b' xs.length c ∧ Hid (k ≤ v ∧ xs.length ≤ 2 * (v - k) ∧ GrowK 5 (StmtP d) 57 (fun j => w.heap.size ≤ j) w.heap.size wr b' xs.length c xs ∧ GSt w0 br bg a len cap bs fa fc fns (u + 1 + (v - k) * cS) va' vc' vars' next' left' wr ∧ (va' = none → vc' = 0) ∧ Turn2 br bg w wr ∧ ListK 1 strP (fun j => j ≠ br ∧ j ≠ bg ∧ ¬ (Value.slice b' xs.length c).ownBlock = some j) wr va' vars' ∧ roundsF F k xs ⟨posOf wr br, vars', next', left'⟩ = roundsF F v [] ⟨posOf w3 br, vars, next, left⟩))
  case atStart => exact ⟨v, _, _, [], va, vc, vars, next, left, rfl, rfl, rfl, Lib.hid ⟨Nat.le_refl _, Nat.zero_le _, HE3.out, by rw [Nat.sub_self, Nat.zero_mul]; exact hx3.out.1, HVC.out, HT3.out, HV3.out, rfl⟩⟩
  case round =>
    obtain ⟨k, b', c, xs, va', vc', vars', next', left', rfl, rfl, rfl, HR1⟩ := hrel
    have HRF := Lib.hid HR1.out.2.2.2.2.2.2.2
    have HR := Lib.hid (And.intro HR1.out.1 (And.intro HR1.out.2.1 (And.intro HR1.out.2.2.1 (And.intro HR1.out.2.2.2.1 (And.intro HR1.out.2.2.2.2.1 (And.intro HR1.out.2.2.2.2.2.1 HR1.out.2.2.2.2.2.2.1))))))
    clear HR1
    have HG := Lib.hid HR.out.2.2.2.1
    have HC := Lib.hid (show (v - k) * cS ≤ 4 * cS from Nat.mul_le_mul_right _ (by omega))
    have HC1 := Lib.hid (fun hk : ¬ k = 0 => show (v - k) * cS + cS ≤ 4 * cS from by
      have h1 : (v - k + 1) * cS ≤ 4 * cS := Nat.mul_le_mul_right _ (by have := HR.out.1; omega)
      rw [Nat.add_mul, Nat.one_mul] at h1
      exact h1)
    by_cases hk : k = 0
    · have hk2 : decide ((0 : Int) < (k : Int)) = false := decide_eq_false (by omega)
      have c2 := HG.out.c2
      have f2 := HG.out.f 2
      have HSV := Lib.hid ((HG.out.more (show u + 1 + (v - k) * cS ≤ u + (4 * cS + 1) by have := HC.out; omega)).setVars (vc' := vc) (HR.out.2.2.2.2.2.1.list strP_stays H0.out.vlist (fun k h => h)) (by have := H0.out.bnd.1; omega))
      have HK2 := Lib.hid (HR.out.2.2.1.keep (stmtP_stays d) (T := fun k => k = bg) (turned_store wr bg 2 (.slice va vars.length vc)) (fun k h1 h2 h3 => by have := HL.out; omega) (fun k h => h))
      go_wp2
      go_ret
      exact ⟨b', c, xs, next', left', rfl, by have := HR.out.2.1; omega, HK2.out, HSV.out.1, HR.out.2.2.2.2.2.1.trans HSV.out.2, by subst hk; rw [posOf_set (by have := HG.out.base; omega), HR0.out, ← HRF.out]; rfl⟩
    · by_cases hleft : left' ≤ 0
      · have c4 := HG.out.c4
        have hleft2 : decide (0 < left') = false := decide_eq_false (by omega)
        have hk2 : decide ((0 : Int) < (k : Int)) = true := decide_eq_true (by omega)
        have c2 := HG.out.c2
        have f2 := HG.out.f 2
        have HSV := Lib.hid ((HG.out.more (show u + 1 + (v - k) * cS ≤ u + (4 * cS + 1) by have := HC.out; omega)).setVars (vc' := vc) (HR.out.2.2.2.2.2.1.list strP_stays H0.out.vlist (fun k h => h)) (by have := H0.out.bnd.1; omega))
        have HK2 := Lib.hid (HR.out.2.2.1.keep (stmtP_stays d) (T := fun k => k = bg) (turned_store wr bg 2 (.slice va vars.length vc)) (fun k h1 h2 h3 => by have := HL.out; omega) (fun k h => h))
        go_wp2
        go_ret
        exact ⟨b', c, xs, next', left', rfl, by have := HR.out.2.1; omega, HK2.out, HSV.out.1, HR.out.2.2.2.2.2.1.trans HSV.out.2, by
          obtain ⟨k', rfl⟩ : ∃ k', k = k' + 1 := ⟨k - 1, by omega⟩
          have hrf : roundsF F (k' + 1) xs ⟨posOf wr br, vars', next', left'⟩ = (xs, ⟨posOf wr br, vars', next', left'⟩) := by rw [roundsF, if_neg (by show ¬ 0 < left'; omega)]
          rw [posOf_set (by have := HG.out.base; omega), HR0.out, ← HRF.out, hrf]⟩
      · have c4 := HG.out.c4
        have hleft2 : decide (0 < left') = true := decide_eq_true (by omega)
        have hk2 : decide ((0 : Int) < (k : Int)) = true := decide_eq_true (by omega)
        have HCS := Lib.hid (show (v - (k - 1)) * cS = (v - k) * cS + cS from by
          have : v - (k - 1) = (v - k) + 1 := by have := HR.out.1; omega
          rw [this, Nat.add_mul, Nat.one_mul])
        have HSC := Lib.hid (HS.out (u + 1 + (v - k) * cS) va' vc' vars' next' left' wr HG.out HR.out.2.2.2.2.1 (by have := HC.out; have := HU.out; have := HC1.out hk; omega))
        obtain ⟨cells, hrows⟩ := HR.out.2.2.1.rows
        have HRW := Lib.hid hrows
        clear hrows
        go_wp2_with fail
        refine HSC.out.mono ?_
        rintro e w5 ⟨b5, c5, ys, va5, vc5, vars5, next5, left5, rfl, hl5, hn5, hx5, hg5, hv5, hvk5, ht5, hF5⟩
        have HRF5 := Lib.hid (show roundsF F (k - 1) (xs ++ ys) ⟨posOf w5 br, vars5, next5, left5⟩ = roundsF F v [] ⟨posOf w3 br, vars, next, left⟩ by
          obtain ⟨k', rfl⟩ : ∃ k', k = k' + 1 := ⟨k - 1, by omega⟩
          rw [← HRF.out, roundsF, if_pos (by show 0 < left'; omega), hF5]; rfl)
        clear hF5
        obtain ⟨hlr, cls, hrow5, hlen5, hcl5, hR5⟩ := hx5.rd
        have HOWN := Lib.hid (fun j (hj : (Value.slice b' xs.length c).ownBlock = some j) => HRW.out.1.lt j hj)
        have HT5 := Lib.hid (HR.out.2.2.2.2.2.1.trans ht5)
        have HVL5 := Lib.hid (hvk5 (fun j => (Value.slice b' xs.length c).ownBlock = some j) (fun j hj => (HOWN.out j hj).2) HR.out.2.2.2.2.2.2)
        have HK5 := Lib.hid (HR.out.2.2.1.keep (stmtP_stays d) (T := fun k => k = br ∨ k = bg ∨ wr.heap.size ≤ k) ht5 (fun k h1 h2 h3 => by have := HL.out; omega) (fun k h => h))
        obtain ⟨cells5, hrows5⟩ := HK5.out.rows
        have HXR := Lib.hid (show ∀ (i : Nat) cl x, cls[i]? = some cl → ys[i]? = some x → StmtP d (fun k => w.heap.size ≤ k ∧ ¬ (Value.slice b' xs.length c).ownBlock = some k) w5 cl x from fun i cl x h1 h2 => (stmtP_stays d).mono (fun k _ hk => ⟨by have := HR.out.2.2.2.2.2.1.size; have hk : wr.heap.size ≤ k := hk; omega, fun e => by have := (HOWN.out k e).2; have hk : wr.heap.size ≤ k := hk; omega⟩) (hR5 i cl x h1 h2))
        have HONE := Lib.hid (show ∀ cl ∈ cls, ∀ u ∈ cl, u.oneCell' = true from fun cl hcl => by
          obtain ⟨i, hi, rfl⟩ := List.getElem_of_mem hcl
          exact stmt_oneCell (hR5 i _ _ (List.getElem?_eq_getElem hi) (List.getElem?_eq_getElem (by omega))))
        have HG5 := Lib.hid (And.intro hg5 (And.intro hv5 (And.intro hl5 (And.intro hlen5 hcl5))))
        have hbig : xs.length + ys.length ≤ 1099511627776 := by have := HR.out.2.1; have := HR.out.1; omega
        have hsz5 := HT5.out.size
        clear hg5 hv5 hvk5 ht5 hx5 hR5 c4 HRW cells
        go_wp2_with (at_builtin; refine app_stmts rfl (.tmp 30) (.tmp 33) rfl w.heap.size _ xs.length _ rfl hrows5.1 b5 ys.length c5 cls rfl hrow5 hlen5 hcl5 hn5 HONE.out hbig hsz5 ?_; intro a9 c9 w9 hown9 hg9 hlies9)
        have HT9 := Lib.hid (Turn2.grown hg9 (fun i hi => (HOWN.out i hi).1) HT5.out)
        have hturn := turned_of_grown hg9 (S := fun k => (Value.slice b' xs.length c).ownBlock = some k) (fun k hk => hk)
        have HP9 := Lib.hid (show posOf w9 br = posOf w5 br from posOf_turned hturn HG5.out.1.lts.1 (fun e => by have := (HOWN.out br e).1; have := HL.out; omega))
        have HV9 := Lib.hid (show ListK 1 strP (fun j => j ≠ br ∧ j ≠ bg ∧ ¬ (Value.slice a9 (xs.length + ys.length) c9).ownBlock = some j) w9 va5 vars5 from
          ((HVL5.out.here strP_stays).turned strP_stays hturn (fun k _ h1 h2 => h1.1.2.2 h2)).mono strP_stays (fun k _ h => ⟨h.1.1, h.1.2.1, fun e => by
            rcases hlies9 with hl | hl
            · exact h.1.2.2 (hl ▸ e)
            · rw [hl] at e
              have := Option.some.inj e
              have := h.2
              omega⟩))
        have HG9 := Lib.hid (HG5.out.1.other hturn (fun k hk h1 => by have := (HOWN.out k h1).1; have := HL.out; have := HW0.out; omega) (HV9.out.mono strP_stays (fun k _ h => ⟨h.1, h.2.1⟩)) (HT9.out.list (fnP_stays 20) H0.out.flist (fun k h => h)))
        have HK9 := Lib.hid (show GrowK 5 (StmtP d) 57 (fun j => w.heap.size ≤ j) w.heap.size w9 a9 (xs ++ ys).length c9 (xs ++ ys) from by
          rw [List.length_append]
          exact RowsK.pushes (stmtP_stays d) hrows5 rfl hlen5 hcl5 HXR.out hown9 hg9 hlies9)
        have HLEN := Lib.hid (show (xs ++ ys).length ≤ 2 * (v - (k - 1)) from by rw [List.length_append]; have := HR.out.2.1; have := HG5.out.2.2.1; have := HR.out.1; omega)
        clear hown9 hg9 hlies9 hrows5 hrow5 hn5 hturn hsz5 hbig
        go_wp2
        go_roundg (k - 1)
        case measure => omega
        case rel => exact ⟨k - 1, a9, c9, xs ++ ys, va5, vc5, vars5, next5, left5, rfl, (by
          have hk1 : ((k - 1 : Nat) : Int) = (k : Int) - 1 := by omega
          have hkv := HR.out.1
          rw [hk1, IntWalk.wrap64_in _ (by omega)]), (by rw [List.length_append]), Lib.hid ⟨by have := HR.out.1; omega, HLEN.out, HK9.out, HG9.out.more (by rw [HCS.out]; omega), HG5.out.2.1, HT9.out, by rw [List.length_append]; exact HV9.out, by rw [HP9.out]; exact HRF5.out⟩⟩
end

end Go.Proofs.YtccdmgncjlpebaaDoor
