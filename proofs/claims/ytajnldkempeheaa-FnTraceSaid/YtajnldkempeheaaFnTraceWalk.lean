/-
  The walk of the law FnTrace, from what the drawing gives.
-/
import Derived.Test.YtajnldkempeheaaFnStepsWalk

namespace Go.Proofs.Ytajnldkempeheaa
open Go.RowKit
set_option linter.unusedVariables false
set_option linter.unusedSimpArgs false

def DrawTraceC : Prop := ∀ (w : World) (a : Option Addr) (len cap : Nat) (bs : List Int), BytesRd w a len bs → len ≤ cap →
  Calls Try.prog 5 #[.slice a len cap] w fun e w' => ∃ us ua uc inp ia ic st, e = .returned (.tuple #[.agg #[.slice ua us.length uc], .slice ia inp.length ic, .int .i64 st]) ∧ DrewU w w' us ua inp ia
/-- What a trace is. -/
theorem trace_facts {us : List CodeD} {inp : List Int} (hV : UnitV us) {c : CodeD} (hc : us[us.length - 1]? = some c) (n : Nat) :
    ∃ L, Walks c 0 L ∧ (runP us inp n).2.trace = L := by
  have hl := hV.len
  obtain ⟨d, hd⟩ : ∃ d, us.length = d + 1 := ⟨us.length - 1, by omega⟩
  obtain ⟨L, h1, h2⟩ := main_walks (doF := doD) (preds := predsC) us hV.callsOk d c hc (hV.nextOk hc) inp (startS n)
  refine ⟨L, h1, ?_⟩
  unfold runP
  rw [hd] at h2 ⊢
  simpa [startS] using h2
section
variable {doF : Int → Int → Int → Int × Int} {call : Nat → List Int → RunS → Int × RunS} {preds : CodeD → Nat → List Int}
theorem block_long (hg : ∀ k inp s, Grow s (call k inp s).2) (c : CodeD) (hc : ∀ y ∈ c.blocks, ∀ x ∈ y.ins, x.op = 14 → ∀ inp s, (call x.num.toNat inp s).2.trace = s.trace) (main : Bool) : ∀ (fuel b : Nat) (regs : List Int) (s : RunS),
    (blockRun doF call preds c main fuel b regs s).2.trace.length + (blockRun doF call preds c main fuel b regs s).2.left ≤ s.trace.length + s.left + 1
  | 0, _, _, s => Nat.le_succ _
  | fuel + 1, b, regs, s => by
    unfold blockRun
    dsimp only
    have hx : ∀ x ∈ (c.blocks.getD b ⟨[], [], 3, 0, []⟩).ins, x.op = 14 → ∀ inp s, (call x.num.toNat inp s).2.trace = s.trace := by
      by_cases hb : b < c.blocks.length
      · rw [List.getD_eq_getElem?_getD, List.getElem?_eq_getElem hb, Option.getD_some]
        exact hc _ (List.getElem_mem hb)
      · rw [List.getD_eq_getElem?_getD, List.getElem?_eq_none (by omega), Option.getD_none]
        intro x hx; cases hx
    have h0 : (if main then { s with trace := s.trace ++ [b] } else s).trace.length ≤ s.trace.length + 1 ∧ (if main then { s with trace := s.trace ++ [b] } else s).left = s.left := by
      split
      · exact ⟨by simp, rfl⟩
      · exact ⟨Nat.le_succ _, rfl⟩
    generalize (if main then { s with trace := s.trace ++ [b] } else s) = s1 at h0 ⊢
    have h1 := congrArg List.length (insAll_trace (doF := doF) (c.blocks.getD b ⟨[], [], 3, 0, []⟩).ins hx regs s1)
    have h2 := (grow_insAll (doF := doF) hg (c.blocks.getD b ⟨[], [], 3, 0, []⟩).ins regs s1).left
    generalize insAll doF call (c.blocks.getD b ⟨[], [], 3, 0, []⟩).ins regs s1 = r at h1 h2 ⊢
    have h3 := congrArg List.length (take_trace r.2)
    have h4 := RunS.take_left r.2
    split
    · dsimp only; omega
    · split
      · dsimp only; omega
      · rename_i hn
        have h5 := RunS.take_lt hn
        split
        · dsimp only; omega
        · have h6 := block_long hg c hc main fuel (nextOf (c.blocks.getD b ⟨[], [], 3, 0, []⟩) r.1) (phiAll (c.blocks.getD (nextOf (c.blocks.getD b ⟨[], [], 3, 0, []⟩) r.1) ⟨[], [], 3, 0, []⟩).phis ((preds c (nextOf (c.blocks.getD b ⟨[], [], 3, 0, []⟩) r.1)).idxOf (b : Int)) r.1) r.2.take
          omega
end
theorem trace_long {us : List CodeD} {inp : List Int} {st : Int} : (traceP us inp st).length ≤ 60001 := by
  unfold traceP
  split
  · rename_i h
    rw [Bool.and_eq_true] at h
    have hV := (fits_last h.1).1
    have hst := in_of h.2
    have hl := hV.len
    obtain ⟨c, hc⟩ : ∃ c, us[us.length - 1]? = some c := ⟨_, List.getElem?_eq_getElem (by omega)⟩
    obtain ⟨d, hd⟩ : ∃ d, us.length = d + 1 := ⟨us.length - 1, by omega⟩
    have h1 := block_long (doF := doD) (call := codeRun doD predsC us d) (preds := predsC) (grow_code us d) c (fun y hy x hx ho inp s => code_trace us hV.callsOk d x.num.toNat inp s (by
      have := (hV.callsOk _ c hc).2 y hy x hx ho; omega)) (us.length - 1 + 1 == us.length) ((startS st.toNat).left + 1) 0 (inp ++ List.replicate (c.regs.toNat - inp.length) 0) (startS st.toNat)
    have h2 : (runP us inp st.toNat).2 = (blockRun doD (codeRun doD predsC us d) predsC c (us.length - 1 + 1 == us.length) ((startS st.toNat).left + 1) 0 (inp ++ List.replicate (c.regs.toNat - inp.length) 0) (startS st.toNat)).2 := by
      unfold runP
      rw [hd]
      conv => lhs; unfold codeRun
      dsimp only
      rw [← hd, List.getD_eq_getElem?_getD, hc, Option.getD_some]
    rw [← h2] at h1
    have h3 : (startS st.toNat).trace.length + (startS st.toNat).left = st.toNat := Nat.zero_add _
    simp only [natI, List.length_map]
    omega
  · simp
theorem Walks.long {c : CodeD} {b : Nat} {L : List Nat} (h : Walks c b L) : 0 < L.length := by cases h <;> simp
set_option maxRecDepth 100000 in
set_option maxHeartbeats 8000000 in
theorem fnTrace_walk (hDraw : DrawTraceC) (a : Option Addr) (len cap : Nat) (zs : List Int) (w : World) (hrow : IsRow .u8 w a len cap zs) :
    Calls Try.prog 3 #[.slice a len cap] w fun e w' => e = .returned (.bool true) ∧ Below w.heap.size w w' := by
  have hin := bytes_of_row hrow
  have hcap := cap_of_row hrow
  clear hrow
  by_cases hbig : 1048576 < len
  · go_enter Try.func3, Try.ntmps3
    go_wp2
    go_ret
    exact ⟨rfl, Below.refl _ _⟩
  go_enter Try.func3, Try.ntmps3
  go_wp2_with fail
  refine (hDraw w a len cap _ hin hcap).mono ?_
  rintro e w1 ⟨us, ua, uc, inp, ia, ic, st, rfl, hD⟩
  have hba : Below w1.heap.size w1 (w1.alloc (.cells #[.slice ua us.length uc] 25)) := (Below.refl _ _).alloc (Nat.le_refl _) _
  have p0 := cell_of_row _ _ 0 _ _ _ (heap_alloc_new w1 (.cells #[.slice ua us.length uc] 25))
  simp only [List.getElem?_toArray, List.getElem?_cons_zero] at p0
  have HD := Lib.hid (show Below w.heap.size w (w1.alloc (.cells #[.slice ua us.length uc] 25)) ∧ SliceRd 3 CodeR (w1.alloc (.cells #[.slice ua us.length uc] 25)) ua us.length us ∧ IntsRd (w1.alloc (.cells #[.slice ua us.length uc] 25)) ia inp.length inp ∧ szS szCodeD us ≤ 1048576 ∧ inp.length ≤ 1048576 from
    ⟨hD.below.trans (hba.mono hD.below.size), hD.u.later codeR_lasts hba, hD.i.later hba, hD.sz, hD.il⟩)
  clear hin hcap hbig hD hba
  go_upto_region 4 with fail
  obtain ⟨tb, htb⟩ : ∃ n, n = w1.heap.size := ⟨_, rfl⟩
  generalize w1.alloc (.cells #[.slice ua us.length uc] 25) = w2 at HD p0 ⊢
  rw [← htb] at p0 ⊢
  clear htb
  obtain ⟨T, hT⟩ : ∃ n, n = traceP us inp st := ⟨_, rfl⟩
  have HT := Lib.hid hT
  have HI := Lib.hid (show Calls Try.prog 6 #[.agg #[.slice ua us.length uc], .slice ia inp.length ic, .int .i64 st] w2 fun e w' => ∃ a c, e = .returned (.slice a T.length c) ∧ IntsRd w' a T.length T ∧ Below w2.heap.size w2 w' from by
    rw [hT]; exact traceOfI_any st HD.out.2.2.2.1 HD.out.2.1 HD.out.2.2.1 HD.out.2.2.2.2)
  have HS := Lib.hid (fun W (hW : Below w2.heap.size w2 W) => show Calls Try.prog 8 #[.agg #[.slice ua us.length uc], .slice ia inp.length ic, .int .i64 st] W fun e w' => ∃ a c, e = .returned (.slice a T.length c) ∧ IntsRd w' a T.length T ∧ Below W.heap.size W w' from by
    rw [hT]; exact traceOfS_any st HD.out.2.2.2.1 (HD.out.2.1.later codeR_lasts hW) (HD.out.2.2.1.later hW) HD.out.2.2.2.2)
  clear hT
  go_wp2_with fail
  refine HI.out.mono ?_
  rintro e w3 ⟨ta, tc, rfl, ht3, hb3⟩
  have q0 := cell_later hb3 p0
  have HB3 := Lib.hid (And.intro hb3 ht3)
  clear hb3 ht3
  go_wp2_with fail
  refine (HS.out w3 HB3.out.1).mono ?_
  rintro e w4 ⟨ta2, tc2, rfl, ht4, hb4⟩
  have HB4 := Lib.hid (And.intro (HB3.out.1.trans (hb4.mono HB3.out.1.size)) (HB3.out.2.later hb4))
  have q0 := cell_later hb4 q0
  have HLT : Hid (T.length ≤ 60001) := Lib.hid (by rw [HT.out]; exact trace_long)
  have HWW := Lib.hid (wwInts_true ta ta2 T.length tc tc2 T w4 HB4.out.2 ht4 (by have := HLT.out; omega))
  clear hb4 ht4 p0
  go_wp2_with fail
  refine HWW.out.mono ?_
  rintro e w5 ⟨rfl, m5, rfl⟩
  have HB5 := Lib.hid (show Below w2.heap.size w2 (w4.drewN m5) ∧ IntsRd (w4.drewN m5) ta T.length T from ⟨below_drewN HB4.out.1 m5, HB4.out.2.later (below_drewN (Below.refl _ _) m5)⟩)
  have q0 : (w4.drewN m5).cell? ⟨tb, 0, none⟩ = some (.slice ua us.length uc) := q0
  generalize w4.drewN m5 = w5 at HB5 q0 ⊢
  cases hrun : (fitsB us inp && inE 0 st 60000) with
  | false =>
    have hT0 : T = [] := by rw [HT.out, traceP, hrun]; rfl
    have HRU := Lib.hid (show Calls Try.prog 9 #[.agg #[.slice ua us.length uc], .slice ia inp.length ic, .int .i64 st] w5 fun e w' => e = .returned (.tuple #[.agg #[.slice none 0 0, .int .i64 0, .int .i64 0, .slice none 0 0], .bool false]) ∧ Below w5.heap.size w5 w' from
      (runUnitI_any st HD.out.2.2.2.1 (HD.out.2.1.later codeR_lasts HB5.out.1) (HD.out.2.2.1.later HB5.out.1) HD.out.2.2.2.2).mono (fun e w' h => ⟨by have h1 := h.1; unfold RunAns at h1; rw [hrun] at h1; exact h1, h.2⟩))
    have hl0 : T.length = 0 := by rw [hT0]; rfl
    have hz : ((T.length : Int) == 0) = true := by rw [hl0]; rfl
    clear hrun hT0 hl0
    generalize T.length = TL at hz
    go_wp2_with fail
    refine HRU.out.mono ?_
    rintro e w6 ⟨rfl, hb6⟩
    have HE := Lib.hid (HD.out.1.trans ((HB5.out.1.trans (hb6.mono HB5.out.1.size)).mono HD.out.1.size))
    clear hb6 q0
    go_wp2
    go_ret
    exact ⟨rfl, HE.out.alloc HE.out.size _⟩
  | true =>
    have hr2 := hrun
    rw [Bool.and_eq_true] at hr2
    have hst2 := in_of hr2.2
    obtain ⟨sn, rfl⟩ : ∃ m : Nat, st = (m : Int) := ⟨st.toNat, by omega⟩
    have hV := (fits_last hr2.1).1
    have hul := hV.len
    obtain ⟨c, hc⟩ : ∃ c, us[us.length - 1]? = some c := ⟨_, List.getElem?_eq_getElem (by omega)⟩
    obtain ⟨L, hW, hTL⟩ := trace_facts (inp := inp) hV hc sn
    have hTe : T = natI L := by rw [HT.out, traceP, hrun, ← hTL]; rfl
    have hTn : T.length = L.length := by rw [hTe, natI, List.length_map]
    have hlong := hW.long
    have hz : ((T.length : Int) == 0) = false := by rw [beq_eq_false_iff_ne]; omega
    obtain ⟨ub, uo, params, rgs, blocks, ba, bc, hua, hk2, c0, c1, c2, hCR⟩ := code_place (HD.out.2.1.later codeR_lasts HB5.out.1) (i := us.length - 1) (by omega)
    subst hua
    rw [hc] at hk2
    cases hk2
    obtain ⟨ba2, bc2, hcs, -, hBl⟩ := hCR
    simp only [List.cons.injEq, Value.slice.injEq, and_true, true_and] at hcs
    obtain ⟨rfl, rfl⟩ := hcs
    change SliceRd 5 BlockR w5 ba blocks.length blocks at hBl
    obtain ⟨q, hq⟩ : ∃ q, q = us.length - 1 := ⟨_, rfl⟩
    have hidx : ((us.length : Int) - 1) = (q : Int) := by omega
    have hqi : (q : Int) < (us.length : Int) := by omega
    rw [← hq] at c0 c1 c2
    have HK := Lib.hid (And.intro hW (And.intro hTe (And.intro hTn (And.intro hV (And.intro hc HD.out.2.2.2.1)))))
    have HBL := Lib.hid hBl
    have hba : Below w5.heap.size w5 (w5.alloc (.cells #[.int .i64 params, .int .i64 rgs, .slice ba blocks.length bc] 37)) := (Below.refl _ _).alloc (Nat.le_refl _) _
    have hcr := heap_alloc_new w5 (.cells #[.int .i64 params, .int .i64 rgs, .slice ba blocks.length bc] 37)
    have HBA := Lib.hid (And.intro hba hcr)
    have hTl : 0 < T.length := by omega
    clear hrun hr2 hV hc hTL hTe hW hBl hq hba hcr hTn hlong
    go_upto_region 11 with fail
    obtain ⟨xb, hxb⟩ : ∃ b, b = w5.heap.size := ⟨_, rfl⟩
    rw [← hxb] at HBA ⊢
    generalize hW6 : w5.alloc (.cells #[.int .i64 params, .int .i64 rgs, .slice ba blocks.length bc] 37) = w6 at HBA ⊢
    have H6 := Lib.hid (show Below w5.heap.size w5 w6 ∧ w6.heap[xb]? = some (.cells #[.int .i64 params, .int .i64 rgs, .slice ba blocks.length bc] 37 (0, 0)) ∧ IntsRd w6 ta T.length T ∧ SliceRd 5 BlockR w6 ba blocks.length blocks ∧ Below w.heap.size w w6 from by
      have h1 : Below w5.heap.size w5 w6 := by rw [← hW6]; exact (Below.refl _ _).alloc (Nat.le_refl _) _
      exact ⟨h1, by rw [← hW6, hxb]; exact heap_alloc_new w5 _, HB5.out.2.later h1, HBL.out.later blockR_lasts h1, HD.out.1.trans ((HB5.out.1.trans (h1.mono HB5.out.1.size)).mono HD.out.1.size)⟩)
    have hlt6 := HLT.out
    clear hW6 hxb HBA q0 c0 c1 c2 hidx hqi hz HBL
    go_wp2
    go_loopg [10] (T.length - 1) (fun F i wr => ∃ j m : Nat, j + F + 1 = T.length ∧ i = .int .i64 ((j : Int) + 1) ∧ wr = w6.drewN m)
    case atStart => exact ⟨0, 0, by omega, rfl, rfl⟩
    case round =>
      obtain ⟨j, m, hj, rfl, rfl⟩ := hrel
      have HR6 := Lib.hid (show IntsRd (w6.drewN m) ta T.length T ∧ SliceRd 5 BlockR (w6.drewN m) ba blocks.length blocks from ⟨H6.out.2.2.1.later (below_drewN (Below.refl _ _) m), H6.out.2.2.2.1.later blockR_lasts (below_drewN (Below.refl _ _) m)⟩)
      have k2 : (w6.drewN m).cell? ⟨xb, 2, none⟩ = some (.slice ba blocks.length bc) := cell_of_row _ _ 2 _ _ _ H6.out.2.1
      generalize hw7 : w6.drewN m = w7 at HR6 k2 ⊢
      have HW7 := Lib.hid hw7
      clear hw7
      by_cases hlt : j + 1 < T.length
      · obtain ⟨lb, lo, p, hta, hp, hcp⟩ := HR6.out.1.place (i := j) (by omega)
        subst hta
        obtain ⟨lb2, lo2, r, hta2, hr, hcr⟩ := HR6.out.1.place (i := j + 1) hlt
        cases hta2
        have hpq : ∃ (p' q' : Nat) (x : BlockD), p = (p' : Int) ∧ r = (q' : Int) ∧ blocks[p']? = some x ∧ (q' : Int) ∈ x.nx := by
          rw [HK.out.2.1, natI, List.getElem?_map] at hp hr
          cases hp' : L[j]? with
          | none => rw [hp'] at hp; cases hp
          | some p' =>
            cases hr' : L[j + 1]? with
            | none => rw [hr'] at hr; cases hr
            | some q' =>
              rw [hp'] at hp
              rw [hr'] at hr
              obtain ⟨x, hx, hq⟩ := HK.out.1.leads hp' hr'
              exact ⟨p', q', x, (Option.some.inj hp).symm, (Option.some.inj hr).symm, hx, hq⟩
        obtain ⟨p', q', x, rfl, rfl, hx, hqx⟩ := hpq
        have hpl := (List.getElem?_eq_some_iff.1 hx).1
        obtain ⟨qb, qo, phis, ins, jump, jon, nx, pa, pc, ia2, ic2, na, nc, hqa, hx2, -, -, -, -, e4, hBR⟩ := block_place HR6.out.2 hpl
        subst hqa
        rw [hx] at hx2
        cases hx2
        obtain ⟨pa', pc', ia', ic', na', nc', hcs, -, -, ⟨-, hN⟩⟩ := hBR
        simp only [List.cons.injEq, Value.slice.injEq, and_true, true_and] at hcs
        obtain ⟨-, -, rfl, rfl⟩ := hcs
        change IntsRd w7 na nx.length nx at hN
        change (q' : Int) ∈ nx at hqx
        have hpi : (p' : Int) < (blocks.length : Int) := by omega
        have hji : (j : Int) < (T.length : Int) := by omega
        have hji1 : (j : Int) + 1 < (T.length : Int) := by omega
        have hnl : nx.length ≤ 1048576 := by
          have hz := szS_get HK.out.2.2.2.2.2 HK.out.2.2.2.2.1
          have hz2 := szS_get (sz := szBlockD) hz.1 hx
          exact (szBlock_parts hz2.1).2.2
        have HNX := Lib.hid (And.intro hN hqx)
        clear hp hr hx hqx hN
        go_upto_region 15 with fail
        go_quiet (fail)
        generalize hw8 : w7.drewN nq = w8
        have H8 := Lib.hid hw8
        have h8c : w8.cell? ⟨lb, lo + (j + 1), none⟩ = some (.int .i64 (q' : Int)) := by rw [← hw8]; exact hcr
        have HN8 := Lib.hid (show IntsRd w8 na nx.length nx from by rw [← hw8]; exact HNX.out.1.later (below_drewN (Below.refl _ _) nq))
        clear hw8 hcr hcp e4 k2
        go_wp2
        go_loopg [11, 71] nx.length (fun FF l i wq => ∃ jj : Nat, jj + FF = nx.length ∧ i = .int .i64 jj ∧ l = .bool (decide ((q' : Int) ∈ nx.take jj)) ∧ wq = w8)
        case atStart => exact ⟨0, by omega, rfl, by simp, rfl⟩
        case round =>
          obtain ⟨jj, hjj, rfl, rfl, rfl⟩ := hrel
          by_cases hlt2 : jj < nx.length
          · obtain ⟨nb, no, y, hna, hy, hcy⟩ := HN8.out.place hlt2
            subst hna
            have hjl : (jj : Int) < (nx.length : Int) := by omega
            have HTK := Lib.hid (take_succ_of hy)
            clear hy
            cases hb : decide ((q' : Int) ∈ nx.take jj) with
            | true =>
              have HNB := Lib.hid (show true = decide ((q' : Int) ∈ nx.take (jj + 1)) from by
                symm
                rw [decide_eq_true_eq] at hb ⊢
                rw [HTK.out]
                exact List.mem_append_left _ hb)
              clear hb
              go_wp2
              go_roundg (nx.length - (jj + 1))
              case measure => omega
              case rel => exact ⟨jj + 1, by omega, by go_num, by rw [← HNB.out], rfl⟩
            | false =>
              have HNB := Lib.hid (show (y == (q' : Int)) = decide ((q' : Int) ∈ nx.take (jj + 1)) from by
                rw [decide_eq_false_iff_not] at hb
                rw [HTK.out, Bool.eq_iff_iff, beq_iff_eq, decide_eq_true_eq, List.mem_append, List.mem_singleton]
                exact ⟨fun e => .inr e.symm, fun e => e.elim (fun h => absurd h hb) (fun h => h.symm)⟩)
              clear hb
              generalize hyq : (y == (q' : Int)) = yq at HNB
              go_wp2
              go_roundg (nx.length - (jj + 1))
              case measure => omega
              case rel => exact ⟨jj + 1, by omega, by go_num, by rw [← HNB.out], rfl⟩
          · obtain rfl : jj = nx.length := by omega
            have hall : decide ((q' : Int) ∈ nx.take nx.length) = true := decide_eq_true (by rw [List.take_length]; exact HNX.out.2)
            rw [hall]
            clear hall h8c
            go_wp2
            go_roundg (T.length - 1 - (j + 1))
            case measure => omega
            case rel => exact ⟨j + 1, m + nq, by omega, by go_num, by rw [← H8.out, ← HW7.out, World.drewN_drewN]⟩
      · have hz0 : T[0]? = some 0 := by
          rw [HK.out.2.1, natI, List.getElem?_map, HK.out.1.zero]; rfl
        obtain ⟨lb, lo, p, hta, hp, hcp⟩ := HR6.out.1.place (i := 0) (by omega)
        subst hta
        rw [hz0] at hp
        cases hp
        have HE := Lib.hid (show Below w.heap.size w w7 from by rw [← HW7.out]; exact below_drewN H6.out.2.2.2.2 m)
        have hT0 : (0 : Int) < (T.length : Int) := by omega
        have hnlt : decide ((j : Int) + 1 < (T.length : Int)) = false := decide_eq_false (by omega)
        clear hz0 k2
        rw [Nat.add_zero] at hcp
        go_wp2
        go_ret
        exact ⟨rfl, HE.out⟩

end Go.Proofs.Ytajnldkempeheaa
