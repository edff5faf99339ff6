
/-
  UnusedRegs, the reference's and the program's.
-/
import Derived.Test.YtkhnhdgbbjppeaaSetsSpec
import Derived.Test.YtkhnhdgbbjppeaaRdInts
namespace Go.Proofs.Ytkhnhdgbbjppeaa
open Go.RowKit

def unuB (c : CodeD) (r : Nat) : Bool := decide (0 < ((codeSets c).getD r []).length) && ((bumps c.regs.toNat (codeArgs c)).getD r 0 == 0)
def unusedP (us : List CodeD) (k : Int) : List Int := if hasB us k then ((us[k.toNat]?).map (fun c => filtTo (unuB c) c.regs.toNat)).getD [] else []
theorem unusedP_of {us : List CodeD} {k n : Nat} {c : CodeD} (hv : hasB us (k : Int) = true) (hx : us[k]? = some c) (hn : c.regs = (n : Int)) : unusedP us k = filtTo (unuB c) n := by
  rw [unusedP, if_pos hv, Int.toNat_natCast, hx]
  simp [hn]
theorem unusedP_small {us : List CodeD} {k : Int} : (unusedP us k).length ≤ 1048576 := by
  unfold unusedP
  by_cases hv : hasB us k = true
  · rw [if_pos hv]
    obtain ⟨hu, h0, hl⟩ := hasB_true.1 hv
    cases hx : us[k.toNat]? with
    | none => simp
    | some c =>
      have h1 := (code_lims (unit_code hu hx)).1
      have h2 := filtTo_len (unuB c) c.regs.toNat
      simp only [Option.map_some, Option.getD_some]
      omega
  · rw [if_neg hv]; simp

/-- A list that grows, and nothing else but block k0 has changed since w2. -/
structure GathE (k0 : Nat) (w2 w : World) (xs : List Int) (oa : Option Addr) (on oc : Nat) (wr : World) : Prop where
  g : Gath w xs oa on oc wr
  t : Turned (fun k => k = k0) w2 wr
  b : ∀ k, (Value.slice oa on oc).ownBlock = some k → k = k0 ∨ w2.heap.size ≤ k
theorem GathE.push {k0 : Nat} {w2 w wr w' : World} {xs : List Int} {oa a' : Option Addr} {on oc c' : Nat} {v : Int} (h : GathE k0 w2 w xs oa on oc wr) (hr : w'.ownsRow w.heap.size 3 1 (.slice a' (on + 1) c') (on + 1) (xs.map (Value.int .i64) ++ [v].map (Value.int .i64)))
    (hg : (wr.alloc (.cells #[.int .i64 v] 3)).grownBy w' (Value.slice oa on oc).ownBlock) (hl : (Value.slice a' (on + 1) c').ownBlock = (Value.slice oa on oc).ownBlock ∨ (Value.slice a' (on + 1) c').ownBlock = some (wr.alloc (.cells #[.int .i64 v] 3)).heap.size) : GathE k0 w2 w (xs ++ [v]) a' (on + 1) c' w' := by
  have hs := h.t.size
  refine ⟨h.g.push hr hg, ⟨hg.os.trans h.t.os, hg.tape.trans h.t.tape, hg.output.trans h.t.output, ?_, fun k hk hne => ?_⟩, fun k hk => ?_⟩
  · have := hg.size; simp at this; omega
  · rw [hg.block k (by simp; omega) (fun e => ?_), heap_alloc_old _ _ (by omega), h.t.block k hk hne]
    rcases h.b k e.symm with h1 | h1
    · exact hne h1
    · omega
  · rcases hl with h1 | h1
    · exact h.b k (by rw [← h1]; exact hk)
    · rw [h1] at hk
      cases hk
      right; simp; omega
theorem Nest.turned {eo ei : TypeId} {s lo g len : Nat} {rows : List Rw} {wr w' : World} {S : Nat → Prop} (h : Nest eo ei s lo g len rows wr) (ht : Turned S wr w') (hS : ∀ k, S k → k < lo) : Nest eo ei s lo g len rows w' :=
  ⟨own_turned h.own ht (fun k hk hs => by have := (h.own.lt k hk).1; have := hS k hs; omega), fun r hr => own_turned (h.row r hr) ht (fun k hk hs => by have := ((h.row r hr).lt k hk).1; have := hS k hs; omega), h.apart⟩
theorem codeSets_eq {c : CodeD} {n : Nat} (hn : c.regs = (n : Int)) : codeSets c = setsP n (evBl c.blocks c.blocks.length) := by rw [codeSets, hn]; rfl
theorem unuB_of {c : CodeD} {n r : Nat} {ps : List Pl} {x : Int} (hn : c.regs = (n : Int)) (h1 : (setsP n (evBl c.blocks c.blocks.length))[r]? = some ps) (h2 : (bumps n (codeArgs c))[r]? = some x) : unuB c r = (decide (0 < ps.length) && (x == 0)) := by
  rw [unuB, codeSets_eq hn, hn, List.getD_eq_getElem?_getD, List.getD_eq_getElem?_getD, h1]
  simp only [Int.toNat_natCast, h2]; rfl
theorem retInts_base {w w3 w' : World} {xs : List Int} {n : Nat} {e : Ending} (h : RetInts w3 xs n e w') (hb : Below w.heap.size w w3) : RetInts w xs n e w' := by
  obtain ⟨a, c, rfl, h1, h2⟩ := h
  exact ⟨a, c, rfl, own_lower h1 (fun k hk => Nat.le_trans hb.size (h1.lt k hk).1), hb.trans (h2.mono hb.size)⟩

set_option maxRecDepth 100000 in
set_option maxHeartbeats 2000000 in
theorem implUnusedRegs_any (us : List CodeD) (ua : Option Addr) (uc : Nat) (k : Int) (hsz : szS szCodeD us ≤ 1048576) (w : World) (hU : SliceRd 3 CodeR w ua us.length us) :
    Calls Try.prog 29 #[.agg #[.slice ua us.length uc], .int .i64 k] w fun e w' => RetInts w (unusedP us k) (unusedP us k).length e w' := by
  have hn2 : us.length ≤ 1048576 := Nat.le_trans (szS_len szCodeD us) hsz
  have hb0 : Below w.heap.size w (w.alloc (.cells #[.slice ua us.length uc] 29)) := (Below.refl _ _).alloc (Nat.le_refl _) _
  have hc0 : (w.alloc (.cells #[.slice ua us.length uc] 29)).cell? ⟨w.heap.size, 0, none⟩ = some (.slice ua us.length uc) := cell_of_row _ _ 0 _ _ _ (heap_alloc_new w _)
  have HC := Lib.hid (And.intro (codeAt_any us ua uc k hsz _ (hU.later codeR_lasts hb0)) (And.intro hb0 (And.intro hU hsz)))
  clear hU
  go_enter Try.func29, Try.ntmps29
  go_wp2_with fail
  refine HC.out.1.mono ?_
  cases hv : hasB us k with
  | false =>
    have HN := Lib.hid (show unusedP us k = [] by rw [unusedP, hv]; rfl)
    clear hv
    rintro e w1 ⟨rfl, hb1⟩
    have HB1 := Lib.hid (HC.out.2.1.trans (hb1.mono HC.out.2.1.size))
    clear hb1
    go_wp2
    go_ret
    rw [HN.out]
    exact ⟨none, 0, rfl, World.ownsRow_nil _ _ _ _, HB1.out⟩
  | true =>
    obtain ⟨hu, h0, hl⟩ := hasB_true.1 hv
    obtain ⟨m, rfl⟩ : ∃ m : Nat, k = (m : Int) := ⟨k.toNat, by omega⟩
    have hm : m < us.length := by omega
    have hmi : (m : Int) < (us.length : Int) := hl
    rintro e w1 ⟨rfl, hb1⟩
    have hc1 := cell_later hb1 hc0
    have HB1 := Lib.hid (HC.out.2.1.trans (hb1.mono HC.out.2.1.size))
    obtain ⟨b1, o1, params, regs, blocks, ba, bc, rfl, hx, c0, c1, c2, hCR⟩ := code_place (HC.out.2.2.1.later codeR_lasts HB1.out) hm
    have hcb := unit_code hu hx
    have hlim := (code_lims hcb).1
    have hlim : 0 ≤ regs ∧ regs ≤ 300 := hlim
    obtain ⟨n, rfl⟩ : ∃ n : Nat, regs = (n : Int) := ⟨regs.toNat, by omega⟩
    have hn : n ≤ 300 := by omega
    have hz := (szS_get (sz := szCodeD) HC.out.2.2.2 hx).1
    have HN := Lib.hid (unusedP_of (n := n) hv hx rfl)
    have HP := Lib.hid (usesIn_any _ ⟨params, (n : Int), blocks⟩ w1 hCR hz hlim (code_args hcb) (code_jumps hcb))
    have HQ := Lib.hid (fun W (hW : Below w1.heap.size w1 W) => placesOf_any _ ⟨params, (n : Int), blocks⟩ W n (codeR_lasts _ _ _ _ hW hCR) hz rfl hn (setsOk_of hcb rfl))
    clear hb1 hc0 hb0 hv hu h0 hl hx hCR hz hcb hlim
    go_wp2_with fail
    refine HP.out.mono ?_
    rintro e w2 ⟨ua2, uc2, rfl, hown2, hb2⟩
    have hown2 : w2.ownsRow w1.heap.size 3 1 (.slice ua2 n uc2) n ((bumps n (codeArgs ⟨params, (n : Int), blocks⟩)).map (Value.int .i64)) := hown2
    have hc2 := cell_later hb2 hc1
    have d0 := cell_later hb2 c0
    have d1 := cell_later hb2 c1
    have d2 := cell_later hb2 c2
    have HU := Lib.hid (And.intro hown2 hb2)
    clear hown2 hc1 c0 c1 c2 HP
    go_wp2_with fail
    refine (HQ.out w2 hb2).mono ?_
    rintro e w3 ⟨g, rfl, hS3⟩
    have hb13 : Below w1.heap.size w1 w3 := hb2.trans (hS3.below.mono hb2.size)
    have HS := Lib.hid (And.intro hS3 (And.intro hb13 (ownsRow_below HU.out.1 (hS3.below))))
    clear hb2 hb13 hc2 d0 d1 d2 HQ
    have hlt3 := hS3.lt
    clear hS3
    go_wp2_with fail
    go_loopg [5, 26] n (fun F o i wr => ∃ r : Nat, r + F = n ∧ i = .int .i64 r ∧ ∃ oa on oc, o = .slice oa on oc ∧ Hid (Gath w3 (filtTo (unuB ⟨params, (n : Int), blocks⟩) r) oa on oc wr))
    case atStart => exact ⟨0, by omega, rfl, _, _, _, rfl, Lib.hid (Gath.nil w3)⟩
    case round =>
      obtain ⟨r, hr, rfl, oa, on, oc, rfl, HG⟩ := hrel
      by_cases hlt : r < n
      · obtain ⟨rows, rw_, ps, hN, hrel, hrr, hps, hrn, hrv, hrl, hgc, hgf, hown⟩ := (HS.out.1.later HG.out.below).get hlt
        obtain ⟨b3, o3, x, hua, hx3, hc3⟩ := (ints_of_own (ownsRow_below HS.out.2.2 HG.out.below)).toIntsRd.place hlt
        subst hua
        have hon : on ≤ 1048576 := by have := HG.out.len; have := filtTo_len (unuB ⟨params, (n : Int), blocks⟩) r; omega
        have HSU := Lib.hid (filtTo_succ (unuB ⟨params, (n : Int), blocks⟩) r)
        have HV := Lib.hid (unuB_of (c := ⟨params, (n : Int), blocks⟩) rfl hps hx3)
        have hri : (r : Int) < (n : Int) := by omega
        have hszw := HG.out.below.size
        clear hN hrel hrr hps hrv hrl hown hx3
        rw [← hrn] at HV
        obtain ⟨ra, rc, rn, rvs⟩ := rw_
        simp only at HV hgc
        clear hrn
        by_cases hz : rn = 0
        · subst hz
          have HF := Lib.hid (show unuB ⟨params, (n : Int), blocks⟩ r = false by rw [HV.out]; rfl)
          go_wp2
          go_roundg (gk - 1)
          case measure => omega
          case rel => exact ⟨r + 1, by omega, by go_num, _, _, _, rfl, Lib.hid (by rw [HSU.out, if_neg (by rw [HF.out]; simp)]; exact HG.out)⟩
        · have hpi : (0 : Int) < (rn : Int) := by omega
          have hpd : decide ((0 : Int) < (rn : Int)) = true := decide_eq_true hpi
          have hpn : decide (0 < rn) = true := decide_eq_true (by omega)
          have HPN := Lib.hid hpn
          cases hx0 : x == 0 with
          | false =>
            have HF := Lib.hid (show unuB ⟨params, (n : Int), blocks⟩ r = false by rw [HV.out, hx0]; simp)
            go_wp2
            go_roundg (gk - 1)
            case measure => omega
            case rel => exact ⟨r + 1, by omega, by go_num, _, _, _, rfl, Lib.hid (by rw [HSU.out, if_neg (by rw [HF.out]; simp)]; exact HG.out)⟩
          | true =>
            have HF := Lib.hid (show unuB ⟨params, (n : Int), blocks⟩ r = true by
              rw [HV.out, hx0, HPN.out]; rfl)
            go_wp2_with (at_builtin; refine app_ints rfl (.tmp 41) (.tmp 43) rfl w3.heap.size _ on _ rfl (HG.out.row.alloc _) _ 1 _ [(r : Int)] rfl rfl (rowAt_one _ _ _) (by rintro ⟨⟩) (by omega) (by simp; omega) ?_; intro a5 c5 w5 hown5 hg5 hlies5)
            have HN2 := Lib.hid (HG.out.push hown5 hg5)
            clear hown5 hg5 hlies5
            go_roundg (gk - 1)
            case measure => omega
            case rel => exact ⟨r + 1, by omega, by go_num, a5, _, c5, rfl, Lib.hid (by rw [HSU.out, if_pos HF.out]; exact HN2.out)⟩
      · obtain rfl : r = n := by omega
        go_wp2
        go_ret
        rw [HN.out]
        exact retInts_base HG.out.ret (HB1.out.trans (HS.out.2.1.mono HB1.out.size))


set_option maxRecDepth 100000 in
set_option maxHeartbeats 2000000 in
theorem specUnusedRegs_any (us : List CodeD) (ua : Option Addr) (uc : Nat) (k : Int) (hsz : szS szCodeD us ≤ 1048576) (w : World) (hU : SliceRd 3 CodeR w ua us.length us) :
    Calls Try.prog 28 #[.agg #[.slice ua us.length uc], .int .i64 k] w fun e w' => RdInts w (unusedP us k) e w' := by
  have hn2 : us.length ≤ 1048576 := Nat.le_trans (szS_len szCodeD us) hsz
  have hb0 : Below w.heap.size w ((w.alloc (.cells #[.slice ua us.length uc] 29)).alloc (.cells #[] 3)) := ((Below.refl _ _).alloc (Nat.le_refl _) _).alloc (by simp) _
  have hc0 : ((w.alloc (.cells #[.slice ua us.length uc] 29)).alloc (.cells #[] 3)).cell? ⟨w.heap.size, 0, none⟩ = some (.slice ua us.length uc) := cell_of_row _ _ 0 _ _ _ (heap_alloc2_old w _ _)
  have HG0 := Lib.hid (show Gath w [] (some ⟨w.heap.size + 1, 0, none⟩) 0 0 ((w.alloc (.cells #[.slice ua us.length uc] 29)).alloc (.cells #[] 3)) from ⟨by have h := own_empty (w.alloc (.cells #[.slice ua us.length uc] 29)) w.heap.size 3 1 (by simp); rwa [World.size_alloc] at h, hb0⟩)
  have hs0 : ((w.alloc (.cells #[.slice ua us.length uc] 29)).alloc (.cells #[] 3)).heap.size = w.heap.size + 1 + 1 := by simp
  have HC := Lib.hid (And.intro (l12Has_any us ua uc k hsz _ (hU.later codeR_lasts hb0)) (And.intro hb0 (And.intro hU hsz)))
  clear hU
  go_enter Try.func28, Try.ntmps28
  go_wp2_with fail
  generalize (w.alloc (.cells #[.slice ua us.length uc] 29)).alloc (.cells #[] 3) = W0 at HG0 HC hb0 hc0 hs0 ⊢
  refine HC.out.1.mono ?_
  cases hv : hasB us k with
  | false =>
    have HN := Lib.hid (show unusedP us k = [] by rw [unusedP, hv]; rfl)
    clear hv
    rintro e w1 ⟨rfl, hb1⟩
    have HG1 := Lib.hid (HG0.out.later hb1)
    clear hb1
    go_wp2
    go_ret
    rw [HN.out]
    exact rdInts_of_ret HG1.out.ret
  | true =>
    obtain ⟨hu, h0, hl⟩ := hasB_true.1 hv
    obtain ⟨m, rfl⟩ : ∃ m : Nat, k = (m : Int) := ⟨k.toNat, by omega⟩
    have hm : m < us.length := by omega
    have hmi : (m : Int) < (us.length : Int) := hl
    rintro e w1 ⟨rfl, hb1⟩
    have hc1 := cell_later hb1 hc0
    have HB1 := Lib.hid (HC.out.2.1.trans (hb1.mono HC.out.2.1.size))
    have HG1 := Lib.hid (HG0.out.later hb1)
    have hs1 := hb1.size
    obtain ⟨b1, o1, params, regs, blocks, ba, bc, rfl, hx, c0, c1, c2, hCR⟩ := code_place (HC.out.2.2.1.later codeR_lasts HB1.out) hm
    have hcb := unit_code hu hx
    have hlim := (code_lims hcb).1
    have hlim : 0 ≤ regs ∧ regs ≤ 300 := hlim
    obtain ⟨n, rfl⟩ : ∃ n : Nat, regs = (n : Int) := ⟨regs.toNat, by omega⟩
    have hn : n ≤ 300 := by omega
    have hz := (szS_get (sz := szCodeD) HC.out.2.2.2 hx).1
    have HN := Lib.hid (unusedP_of (n := n) hv hx rfl)
    have HP := Lib.hid (l13Uses_any _ ⟨params, (n : Int), blocks⟩ w1 hCR hz hlim (code_args hcb) (code_jumps hcb))
    have HQ := Lib.hid (fun W (hW : Below w1.heap.size w1 W) => l13Sets_any _ ⟨params, (n : Int), blocks⟩ W n (codeR_lasts _ _ _ _ hW hCR) hz rfl hn (setsOk_of hcb rfl))
    clear hb1 hc0 hb0 hv hu h0 hl hx hCR hz hcb hlim
    go_wp2_with fail
    refine HP.out.mono ?_
    rintro e w2 ⟨ua2, uc2, rfl, hown2, hb2⟩
    have hown2 : w2.ownsRow w1.heap.size 3 1 (.slice ua2 n uc2) n ((bumps n (codeArgs ⟨params, (n : Int), blocks⟩)).map (Value.int .i64)) := hown2
    have hc2 := cell_later hb2 hc1
    have d0 := cell_later hb2 c0
    have d1 := cell_later hb2 c1
    have d2 := cell_later hb2 c2
    have HU := Lib.hid (And.intro hown2 hb2)
    clear hown2 hc1 c0 c1 c2 HP
    go_wp2_with fail
    refine (HQ.out w2 hb2).mono ?_
    rintro e w3 ⟨g, rfl, hS3⟩
    have hs12 := hb2.size
    have hb13 : Below w1.heap.size w1 w3 := hb2.trans (hS3.below.mono hb2.size)
    have HS := Lib.hid (And.intro hS3 (And.intro hb13 (ownsRow_below HU.out.1 (hS3.below))))
    clear hb2 hb13 hc2 d0 d1 d2 HQ
    have hlt3 := hS3.lt
    have hb23 := hS3.below.size
    clear hS3
    go_wp2_with fail
    go_loopg [5, 8] n (fun F o i wr => ∃ r : Nat, r + F = n ∧ i = .int .i64 r ∧ ∃ oa on oc, o = .slice oa on oc ∧ Hid (GathE (w.heap.size + 1) w3 w (filtTo (unuB ⟨params, (n : Int), blocks⟩) r) oa on oc wr))
    case atStart => exact ⟨0, by omega, rfl, _, _, _, rfl, Lib.hid ⟨HG1.out.later HS.out.2.1, Turned.refl _ _, fun k hk => .inl (by cases hk; rfl)⟩⟩
    case round =>
      obtain ⟨r, hr, rfl, oa, on, oc, rfl, HG⟩ := hrel
      by_cases hlt : r < n
      · obtain ⟨rows, rw_, ps, hN, hrel, hrr, hps, hpr, hrl, _, _, _⟩ := HS.out.1.get hlt
        have hN2 := hN.turned HG.out.t (fun k hk => by omega)
        obtain ⟨rw2, hrr2, hgc, hgf, _⟩ := hN2.get hlt
        rw [hrr] at hrr2
        cases hrr2
        obtain ⟨b3, o3, x, hua, hx3, hc3⟩ := (ints_of_own (own_turned HS.out.2.2 HG.out.t (fun k hk hs => by have := (HS.out.2.2.lt k hk).1; omega))).toIntsRd.place hlt
        subst hua
        have hon : on ≤ 1048576 := by have := HG.out.g.len; have := filtTo_len (unuB ⟨params, (n : Int), blocks⟩) r; omega
        have HSU := Lib.hid (filtTo_succ (unuB ⟨params, (n : Int), blocks⟩) r)
        have HV := Lib.hid (unuB_of (c := ⟨params, (n : Int), blocks⟩) rfl hps hx3)
        have hri : (r : Int) < (n : Int) := by omega
        have hszw := HG.out.g.below.size
        have hrn := hpr.n
        clear hN hN2 hrel hrr hps hpr hrl hx3
        rw [← hrn] at HV
        obtain ⟨ra, rc, rn, rvs⟩ := rw_
        have hgc2 : wr.cell? ⟨g, r, none⟩ = some (.slice ra rn rc) := hgc
        simp only at HV
        clear hgc
        clear hrn
        cases hx0 : x == 0 with
        | false =>
          have HF := Lib.hid (show unuB ⟨params, (n : Int), blocks⟩ r = false by rw [HV.out, hx0]; simp)
          go_wp2
          go_roundg (gk - 1)
          case measure => omega
          case rel => exact ⟨r + 1, by omega, by go_num, _, _, _, rfl, Lib.hid (by rw [HSU.out, if_neg (by rw [HF.out]; simp)]; exact HG.out)⟩
        | true =>
          by_cases hz : rn = 0
          · subst hz
            have HF := Lib.hid (show unuB ⟨params, (n : Int), blocks⟩ r = false by rw [HV.out]; rfl)
            go_wp2
            go_roundg (gk - 1)
            case measure => omega
            case rel => exact ⟨r + 1, by omega, by go_num, _, _, _, rfl, Lib.hid (by rw [HSU.out, if_neg (by rw [HF.out]; simp)]; exact HG.out)⟩
          · have hpi : (0 : Int) < (rn : Int) := by omega
            have hpd : decide ((0 : Int) < (rn : Int)) = true := decide_eq_true hpi
            have hpn : decide (0 < rn) = true := decide_eq_true (by omega)
            have HF := Lib.hid (show unuB ⟨params, (n : Int), blocks⟩ r = true by
              rw [HV.out, hx0, hpn]; rfl)
            go_wp2_with (at_builtin; refine app_ints rfl (.tmp 46) (.tmp 48) rfl w.heap.size _ on _ rfl (HG.out.g.row.alloc _) _ 1 _ [(r : Int)] rfl rfl (rowAt_one _ _ _) (by rintro ⟨⟩) (by omega) (by simp; omega) ?_; intro a5 c5 w5 hown5 hg5 hlies5)
            have HN2 := Lib.hid (HG.out.push hown5 hg5 hlies5)
            clear hown5 hg5 hlies5
            go_roundg (gk - 1)
            case measure => omega
            case rel => exact ⟨r + 1, by omega, by go_num, a5, _, c5, rfl, Lib.hid (by rw [HSU.out, if_pos HF.out]; exact HN2.out)⟩
      · obtain rfl : r = n := by omega
        go_wp2
        go_ret
        rw [HN.out]
        exact rdInts_of_ret HG.out.g.ret


end Go.Proofs.Ytkhnhdgbbjppeaa
