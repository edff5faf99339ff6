
/-
  The places of the calls of a code, the reference's and the program's.
-/
import Derived.Test.YtonlidgmfmgcmaaGreatUsesIn
import Derived.Test.YtonlidgmfmgcmaaGreatMat
namespace Go.Proofs.YtonlidgmfmgcmaaGreat
open Go.RowKit

/-- The calls among the first instructions of block b. -/
def callsTo (b : Nat) (is : List InsD) : Nat → List (List Int)
  | 0 => []
  | i + 1 => callsTo b is i ++ (if (is[i]?).any (fun x => x.op == 14) then [[(b : Int), (i : Int)]] else [])
/-- The calls in the first blocks. -/
def callsBl (bs : List BlockD) : Nat → List (List Int)
  | 0 => []
  | b + 1 => callsBl bs b ++ ((bs[b]?).map (fun x => callsTo b x.ins x.ins.length)).getD []
def callsP (us : List CodeD) (k : Int) : List (List Int) := if hasB us k then ((us[k.toNat]?).map (fun c => callsBl c.blocks c.blocks.length)).getD [] else []
theorem callsTo_yes {b i : Nat} {is : List InsD} {x : InsD} (hx : is[i]? = some x) (h : x.op = 14) : callsTo b is (i + 1) = callsTo b is i ++ [[(b : Int), (i : Int)]] := by
  rw [callsTo, hx]; simp [h]
theorem callsTo_no {b i : Nat} {is : List InsD} {x : InsD} (hx : is[i]? = some x) (h : ¬ x.op = 14) : callsTo b is (i + 1) = callsTo b is i := by
  rw [callsTo, hx]; simp [h]
theorem callsBl_succ {b : Nat} {bs : List BlockD} {x : BlockD} (hx : bs[b]? = some x) : callsBl bs (b + 1) = callsBl bs b ++ callsTo b x.ins x.ins.length := by
  rw [callsBl, hx]; rfl
theorem callsTo_len (b : Nat) (is : List InsD) : ∀ i, (callsTo b is i).length ≤ i
  | 0 => Nat.le_refl _
  | i + 1 => by
    have := callsTo_len b is i
    rw [callsTo, List.length_append]
    split <;> simp <;> omega
def inN (x : BlockD) : Nat := x.ins.length
theorem inN_le (x : BlockD) : inN x ≤ szBlockD x := by
  have := szS_len szInsD x.ins
  unfold inN szBlockD
  omega
theorem callsBl_len (bs : List BlockD) : ∀ b, (callsBl bs b).length ≤ sumOf inN (bs.take b)
  | 0 => by simp [callsBl]
  | b + 1 => by
    have h1 := callsBl_len bs b
    cases hx : bs[b]? with
    | none =>
      have h2 : bs.take (b + 1) = bs.take b := by rw [List.take_add_one, hx]; simp
      rw [callsBl, hx, h2]; simpa using h1
    | some x =>
      have h2 := callsTo_len b x.ins x.ins.length
      rw [callsBl_succ hx, take_succ_of hx, sumOf_snoc, List.length_append]
      unfold inN
      unfold inN at h1
      omega
theorem calls_small {bs : List BlockD} {b i : Nat} {x : BlockD} (h : szS szBlockD bs ≤ 1048576) (hx : bs[b]? = some x) (hi : i ≤ x.ins.length) : (callsBl bs b ++ callsTo b x.ins i).length ≤ 1048576 := by
  have h1 := callsBl_len bs b
  have h2 := callsTo_len b x.ins i
  have h3 := sumOf_le inN_le bs
  have h4 := sumOf_pre inN bs (b + 1)
  rw [take_succ_of hx, sumOf_snoc] at h4
  rw [List.length_append]
  unfold szS at h
  unfold inN at h4 h1 h3
  omega
theorem callsP_small {us : List CodeD} {k : Int} (h : szS szCodeD us ≤ 1048576) : (callsP us k).length ≤ 1048576 := by
  unfold callsP
  split
  · cases hx : us[k.toNat]? with
    | none => simp
    | some c =>
      have h1 := (szS_get (sz := szCodeD) h hx).1
      have h2 := callsBl_len c.blocks c.blocks.length
      have h3 := sumOf_le inN_le c.blocks
      rw [List.take_length] at h2
      unfold szCodeD szS at h1
      simp only [Option.map_some, Option.getD_some]
      omega
  · simp
theorem callsTo_two (b : Nat) (is : List InsD) : ∀ i, ∀ x ∈ callsTo b is i, x.length = 2
  | 0, x, hx => by simp [callsTo] at hx
  | i + 1, x, hx => by
    rw [callsTo, List.mem_append] at hx
    rcases hx with hx | hx
    · exact callsTo_two b is i x hx
    · split at hx
      · simp at hx; subst hx; rfl
      · simp at hx
theorem callsBl_two (bs : List BlockD) : ∀ b, ∀ x ∈ callsBl bs b, x.length = 2
  | 0, x, hx => by simp [callsBl] at hx
  | b + 1, x, hx => by
    rw [callsBl, List.mem_append] at hx
    rcases hx with hx | hx
    · exact callsBl_two bs b x hx
    · cases hb : bs[b]? with
      | none => rw [hb] at hx; simp at hx
      | some y => rw [hb] at hx; exact callsTo_two b _ _ x hx
theorem callsP_two (us : List CodeD) (k : Int) : ∀ x ∈ callsP us k, x.length = 2 := by
  intro x hx
  unfold callsP at hx
  split at hx
  · cases hk : us[k.toNat]? with
    | none => rw [hk] at hx; simp at hx
    | some c => rw [hk] at hx; exact callsBl_two _ _ x hx
  · simp at hx
theorem callsP_of {us : List CodeD} {k : Nat} {c : CodeD} (hv : hasB us (k : Int) = true) (hx : us[k]? = some c) : callsP us k = callsBl c.blocks c.blocks.length := by
  rw [callsP, if_pos hv, Int.toNat_natCast, hx]; rfl

set_option maxRecDepth 100000 in
set_option maxHeartbeats 2000000 in
theorem callPlaces_any (cs : List Value) (c : CodeD) (w : World) (hR : CodeR w cs c) (hs : szCodeD c ≤ 1048576) :
    Calls Tryz.prog 44 #[.agg cs.toArray] w fun e w' => RetMat w (callsBl c.blocks c.blocks.length) (callsBl c.blocks c.blocks.length).length e w' := by
  obtain ⟨params, regs, blocks⟩ := c
  obtain ⟨ba, bc, rfl, _, hrd⟩ := hR
  have hrd : SliceRd 5 BlockR w ba blocks.length blocks := hrd
  have hs : szS szBlockD blocks ≤ 1048576 := hs
  show Calls _ _ _ _ fun e w' => RetMat w (callsBl blocks blocks.length) (callsBl blocks blocks.length).length e w'
  have hbl : blocks.length ≤ 1048576 := Nat.le_trans (szS_len szBlockD blocks) hs
  have hb0 : Below w.heap.size w (w.alloc (.cells #[.int .i64 params, .int .i64 regs, .slice ba blocks.length bc] 52)) := (Below.refl _ _).alloc (Nat.le_refl _) _
  have hc2 : (w.alloc (.cells #[.int .i64 params, .int .i64 regs, .slice ba blocks.length bc] 52)).cell? ⟨w.heap.size, 2, none⟩ = some (.slice ba blocks.length bc) := cell_of_row _ _ 2 _ _ _ (heap_alloc_new w _)
  have HG0 := Lib.hid (GathM.nil hb0)
  have HS := Lib.hid hs
  clear hs hb0
  go_enter Tryz.func44, Tryz.ntmps44
  go_wp2
  clear hc2
  go_loopg [3, 11] blocks.length (fun F o i wr => ∃ b : Nat, b + F = blocks.length ∧ i = .int .i64 b ∧ ∃ oa on oc, o = .slice oa on oc ∧ Hid (GathM w (callsBl blocks b) oa on oc wr))
  case atStart => exact ⟨0, by omega, rfl, _, _, _, rfl, HG0⟩
  case round =>
    obtain ⟨b, hb, rfl, oa, on, oc, rfl, HG⟩ := hrel
    clear HG0
    by_cases hlt : b < blocks.length
    · obtain ⟨b1, o1, phis, ins, jump, jon, nx, pa, pc, ia, ic, na, nc, rfl, hx, c0, c1, c2, c3, c4, hR⟩ := block_place hrd hlt
      obtain ⟨_, _, _, _, _, _, hcs, _, hins, _⟩ := hR
      simp only [List.cons.injEq, Value.slice.injEq, and_true, true_and] at hcs
      obtain ⟨⟨rfl, rfl⟩, ⟨rfl, rfl⟩, rfl, rfl⟩ := hcs
      have d0 := cell_later HG.out.below c0
      have d1 := cell_later HG.out.below c1
      have d2 := cell_later HG.out.below c2
      have d3 := cell_later HG.out.below c3
      have d4 := cell_later HG.out.below c4
      have hins : SliceRd 4 InsR w ia ins.length ins := hins.2
      have hzb := szBlock_parts (szS_get (sz := szBlockD) HS.out hx).1
      have hil : ins.length ≤ 1048576 := Nat.le_trans (szS_len szInsD ins) hzb.2.1
      have hq1 : (wr.alloc (.cells #[.slice pa phis.length pc, .slice ia ins.length ic, .int .i64 jump, .int .i64 jon, .slice na nx.length nc] 49)).cell? ⟨wr.heap.size, 1, none⟩ = some (.slice ia ins.length ic) := cell_of_row _ _ 1 _ _ _ (heap_alloc_new wr _)
      have HGA := Lib.hid (HG.out.later ((Below.refl wr.heap.size wr).alloc (Nat.le_refl _) (.cells #[.slice pa phis.length pc, .slice ia ins.length ic, .int .i64 jump, .int .i64 jon, .slice na nx.length nc] 49)))
      have HX := Lib.hid hx
      clear hx c0 c1 c2 c3 c4 hzb HG
      go_wp2_with fail
      generalize wr.alloc (.cells #[.slice pa phis.length pc, .slice ia ins.length ic, .int .i64 jump, .int .i64 jon, .slice na nx.length nc] 49) = wa at HGA ⊢
      clear hq1 d0 d1 d2 d3 d4
      go_loopg [3, 19] ins.length (fun F o i wq => ∃ j : Nat, j + F = ins.length ∧ i = .int .i64 j ∧ ∃ oa on oc, o = .slice oa on oc ∧ Hid (GathM w (callsBl blocks b ++ callsTo b ins j) oa on oc wq))
      case atStart => exact ⟨0, by omega, rfl, _, _, _, rfl, Lib.hid (by simpa [callsTo] using HGA.out)⟩
      case round =>
        obtain ⟨j, hj, rfl, oa2, on2, oc2, rfl, HQ⟩ := hrel
        clear HGA
        by_cases hlt2 : j < ins.length
        · obtain ⟨b2, o2, op, tr, args, num, aa, ac, rfl, hxi, e0, e1, e2, e3, hRi⟩ := ins_place hins hlt2
          have f0 := cell_later HQ.out.below e0
          have f1 := cell_later HQ.out.below e1
          have f2 := cell_later HQ.out.below e2
          have f3 := cell_later HQ.out.below e3
          have hq0 : (wr.alloc (.cells #[.int .i64 op, .int .i64 tr, .slice aa args.length ac, .int .i64 num] 45)).cell? ⟨wr.heap.size, 0, none⟩ = some (.int .i64 op) := cell_of_row _ _ 0 _ _ _ (heap_alloc_new wr _)
          have HQA := Lib.hid (HQ.out.later ((Below.refl wr.heap.size wr).alloc (Nat.le_refl _) (.cells #[.int .i64 op, .int .i64 tr, .slice aa args.length ac, .int .i64 num] 45)))
          have hsm := calls_small HS.out HX.out (i := j) (by show j ≤ ins.length; omega)
          have hsm : (callsBl blocks b ++ callsTo b ins j).length ≤ 1048576 := hsm
          rw [HQ.out.len] at hsm
          by_cases hop : op = 14
          · have HC := Lib.hid (callsTo_yes (b := b) hxi hop)
            have he : (op == 14) = true := by simpa using hop
            clear hxi e0 e1 e2 e3 hRi HQ hop
            go_upto_region 9 with fail
            generalize wr.alloc (.cells #[.int .i64 op, .int .i64 tr, .slice aa args.length ac, .int .i64 num] 45) = wi at HQA ⊢
            clear hq0 f0 f1 f2 f3
            obtain ⟨rows, hm, hxs, hnd⟩ := HQA.out.mat
            have hbw := HQA.out.below
            have HM := Lib.hid (And.intro hbw (And.intro hm (And.intro hnd hxs)))
            have hsz := hbw.size
            clear hm hxs hnd hbw
            go_wp2_with (at_builtin; refine app_row rfl (.tmp 27) (.tmp 31) rfl w.heap.size _ on2 _ rfl ((HM.out.2.1.alloc _).alloc _).own _ _ _ rfl (pair_row _ _ _) rfl (by omega) (by simp only [World.size_alloc]; omega) ?_; intro a5 c5 w5 hown5 hg5 hlies5)
            have HN := Lib.hid (GathM.push HM.out.1 HM.out.2.1 HM.out.2.2.1 hown5 hg5)
            clear hown5 hg5 hlies5
            go_roundg (gk - 1)
            case measure => omega
            case rel => exact ⟨j + 1, by omega, by go_num, a5, _, c5, rfl, Lib.hid (by have h1 := HN.out; rw [HM.out.2.2.2, List.append_assoc] at h1; rw [HC.out]; exact h1)⟩
          · have HC := Lib.hid (callsTo_no (b := b) hxi hop)
            have he : (op == 14) = false := by simpa using hop
            clear hxi e0 e1 e2 e3 hRi HQ hop
            go_wp2
            go_roundg (gk - 1)
            case measure => omega
            case rel => exact ⟨j + 1, by omega, by go_num, _, _, _, rfl, Lib.hid (by rw [HC.out]; exact HQA.out)⟩
        · obtain rfl : j = ins.length := by omega
          go_wp2
          go_roundg (blocks.length - (b + 1))
          case measure => omega
          case rel => exact ⟨b + 1, by omega, by go_num, _, _, _, rfl, Lib.hid (by rw [callsBl_succ HX.out]; exact HQ.out)⟩
    · obtain rfl : b = blocks.length := by omega
      go_wp2
      go_ret
      have h1 := HG.out.ret
      rw [← HG.out.len] at h1 ⊢
      exact h1

set_option maxRecDepth 100000 in
set_option maxHeartbeats 2000000 in
theorem specCallPlaces_any (us : List CodeD) (ua : Option Addr) (uc : Nat) (k : Int) (hsz : szS szCodeD us ≤ 1048576) (w : World) (hU : SliceRd 3 CodeR w ua us.length us) :
    Calls Tryz.prog 19 #[.agg #[.slice ua us.length uc], .int .i64 k] w fun e w' => RetMat w (callsP us k) (callsP us k).length e w' := by
  have hb0 : Below w.heap.size w ((w.alloc (.cells #[.slice ua us.length uc] 30)).alloc (.cells #[] 26)) := ((Below.refl _ _).alloc (Nat.le_refl _) _).alloc (by simp) _
  have hrow : ((w.alloc (.cells #[.slice ua us.length uc] 30)).alloc (.cells #[] 26)).heap[w.heap.size]? = some (.cells #[.slice ua us.length uc] 30) := heap_alloc2_old w _ _
  have hc0 : ((w.alloc (.cells #[.slice ua us.length uc] 30)).alloc (.cells #[] 26)).cell? ⟨w.heap.size, 0, none⟩ = some (.slice ua us.length uc) := cell_of_row _ _ 0 _ _ _ hrow
  have HG0 := Lib.hid (show GathM w [] (some ⟨w.heap.size + 1, 0, none⟩) 0 0 ((w.alloc (.cells #[.slice ua us.length uc] 30)).alloc (.cells #[] 26)) from by have h := GathM.empty (w := w) ((Below.refl w.heap.size w).alloc (Nat.le_refl _) (.cells #[.slice ua us.length uc] 30)); rwa [World.size_alloc] at h)
  have HC := Lib.hid (And.intro (l12Has_any us ua uc k hsz _ (hU.later codeR_lasts hb0)) (And.intro hU hsz))
  have hn2 : us.length ≤ 1048576 := Nat.le_trans (szS_len szCodeD us) hsz
  clear hU hrow
  go_enter Tryz.func19, Tryz.ntmps19
  go_wp2_with fail
  generalize (w.alloc (.cells #[.slice ua us.length uc] 30)).alloc (.cells #[] 26) = W0 at HG0 HC hb0 hc0 ⊢
  refine HC.out.1.mono ?_
  cases hv : hasB us k with
  | false =>
    have HN := Lib.hid (show callsP us k = [] by rw [callsP, hv]; rfl)
    clear hv
    rintro e w1 ⟨rfl, hb1⟩
    have HG1 := Lib.hid (HG0.out.later hb1)
    clear hb1
    go_wp2
    go_ret
    rw [HN.out]
    exact HG1.out.ret
  | true =>
    obtain ⟨_, h0, hl⟩ := hasB_true.1 hv
    obtain ⟨m, rfl⟩ : ∃ m : Nat, k = (m : Int) := ⟨k.toNat, by omega⟩
    have hm : m < us.length := by omega
    have hmi : (m : Int) < (us.length : Int) := hl
    rintro e w1 ⟨rfl, hb1⟩
    have hc1 := cell_later hb1 hc0
    have HG1 := Lib.hid (HG0.out.later hb1)
    have hU1 := HC.out.2.1
    obtain ⟨b1, o1, params, regs, blocks, ba, bc, rfl, hx, c0, c1, c2, hCR⟩ := code_place hU1 hm
    have hrd : SliceRd 5 BlockR w ba blocks.length blocks := by
      obtain ⟨_, _, hcs, _, h⟩ := hCR
      simp only [List.cons.injEq, Value.slice.injEq, and_true, true_and] at hcs
      obtain ⟨rfl, rfl⟩ := hcs
      exact h
    have d0 := cell_later HG1.out.below c0
    have d1 := cell_later HG1.out.below c1
    have d2 := cell_later HG1.out.below c2
    have hz : szS szBlockD blocks ≤ 1048576 := (szS_get (sz := szCodeD) HC.out.2.2 hx).1
    have hbl : blocks.length ≤ 1048576 := Nat.le_trans (szS_len szBlockD blocks) hz
    have HN := Lib.hid (show callsP us (m : Int) = callsBl blocks blocks.length from callsP_of hv hx)
    have HGA := Lib.hid (HG1.out.later ((Below.refl w1.heap.size w1).alloc (Nat.le_refl _) (.cells #[.int .i64 params, .int .i64 regs, .slice ba blocks.length bc] 52)))
    have HCB := Lib.hid (heap_alloc_new w1 (.cells #[.int .i64 params, .int .i64 regs, .slice ba blocks.length bc] 52))
    have HS := Lib.hid hz
    clear hv h0 hl hb1 hc0 hb0 hU1 hx hCR hz c0 c1 c2 HG0 HG1
    go_wp2_with fail
    generalize w1.alloc (.cells #[.int .i64 params, .int .i64 regs, .slice ba blocks.length bc] 52) = wa at HGA HCB ⊢
    obtain ⟨cb, hcb⟩ : ∃ cb, cb = w1.heap.size := ⟨_, rfl⟩
    rw [← hcb] at HCB ⊢
    clear hcb d0 d1 d2
    go_loopg [5, 7] blocks.length (fun F o i wr => ∃ b : Nat, b + F = blocks.length ∧ i = .int .i64 b ∧ ∃ oa on oc, o = .slice oa on oc ∧ Hid (GathM w (callsBl blocks b) oa on oc wr ∧ wr.heap[cb]? = some (.cells #[.int .i64 params, .int .i64 regs, .slice ba blocks.length bc] 52)))
    case atStart => exact ⟨0, by omega, rfl, _, _, _, rfl, Lib.hid ⟨HGA.out, HCB.out⟩⟩
    case round =>
      obtain ⟨b, hb, rfl, oa, on, oc, rfl, HG⟩ := hrel
      clear HGA
      have k2 : wr.cell? ⟨cb, 2, none⟩ = some (.slice ba blocks.length bc) := cell_of_row _ _ 2 _ _ _ HG.out.2
      by_cases hlt : b < blocks.length
      · obtain ⟨b3, o3, phis, ins, jump, jon, nx, pa, pc, ia, ic, na, nc, rfl, hx, c0, c1, c2, c3, c4, hR⟩ := block_place hrd hlt
        obtain ⟨_, _, _, _, _, _, hcs, _, hins, _⟩ := hR
        simp only [List.cons.injEq, Value.slice.injEq, and_true, true_and] at hcs
        obtain ⟨⟨rfl, rfl⟩, ⟨rfl, rfl⟩, rfl, rfl⟩ := hcs
        have d1 := cell_later HG.out.1.below c1
        have hins : SliceRd 4 InsR w ia ins.length ins := hins.2
        have hzb := szBlock_parts (szS_get (sz := szBlockD) HS.out hx).1
        have hil : ins.length ≤ 1048576 := Nat.le_trans (szS_len szInsD ins) hzb.2.1
        have HX := Lib.hid hx
        have HE := Lib.hid c1
        have hbi : (b : Int) < (blocks.length : Int) := by omega
        clear hx c0 c1 c2 c3 c4 hzb
        go_wp2_with fail
        clear k2 d1
        go_loopg [5, 8] ins.length (fun F o i wq => ∃ j : Nat, j + F = ins.length ∧ i = .int .i64 j ∧ ∃ oa on oc, o = .slice oa on oc ∧ Hid (GathM w (callsBl blocks b ++ callsTo b ins j) oa on oc wq ∧ wq.heap[cb]? = some (.cells #[.int .i64 params, .int .i64 regs, .slice (some ⟨b3, o3, none⟩) blocks.length bc] 52)))
        case atStart => exact ⟨0, by omega, rfl, _, _, _, rfl, Lib.hid ⟨by simpa [callsTo] using HG.out.1, HG.out.2⟩⟩
        case round =>
          obtain ⟨j, hj, rfl, oa2, on2, oc2, rfl, HQ⟩ := hrel
          clear HG
          have k2 : wr.cell? ⟨cb, 2, none⟩ = some (.slice (some ⟨b3, o3, none⟩) blocks.length bc) := cell_of_row _ _ 2 _ _ _ HQ.out.2
          have d1 := cell_later HQ.out.1.below HE.out
          by_cases hlt2 : j < ins.length
          · obtain ⟨b2, o2, op, tr, args, num, aa, ac, rfl, hxi, e0, e1, e2, e3, hRi⟩ := ins_place hins hlt2
            have f0 := cell_later HQ.out.1.below e0
            have hsm := calls_small HS.out HX.out (i := j) (by show j ≤ ins.length; omega)
            have hsm : (callsBl blocks b ++ callsTo b ins j).length ≤ 1048576 := hsm
            rw [HQ.out.1.len] at hsm
            by_cases hop : op = 14
            · have HC := Lib.hid (callsTo_yes (b := b) hxi hop)
              have he : (op == 14) = true := by simpa using hop
              clear hxi e0 e1 e2 e3 hRi hop
              obtain ⟨rows, hm, hxs, hnd⟩ := HQ.out.1.mat
              have hbw := HQ.out.1.below
              have HM := Lib.hid (And.intro hbw (And.intro hm (And.intro hnd hxs)))
              have hsz := hbw.size
              have HB := Lib.hid HQ.out.2
              clear hm hxs hnd hbw HQ
              go_wp2_with (at_builtin; refine app_row rfl (.tmp 49) (.tmp 53) rfl w.heap.size _ on2 _ rfl ((HM.out.2.1.alloc _).alloc _).own _ _ _ rfl (pair_row _ _ _) rfl (by omega) (by simp only [World.size_alloc]; omega) ?_; intro a5 c5 w5 hown5 hg5 hlies5)
              have HN := Lib.hid (GathM.push HM.out.1 HM.out.2.1 HM.out.2.2.1 hown5 hg5)
              have HN2 := Lib.hid (GathM.kept HM.out.2.1 hg5 HB.out (by decide))
              clear hown5 hg5 hlies5
              go_roundg (gk - 1)
              case measure => omega
              case rel => exact ⟨j + 1, by omega, by go_num, a5, _, c5, rfl, Lib.hid ⟨by have h1 := HN.out; rw [HM.out.2.2.2, List.append_assoc] at h1; rw [HC.out]; exact h1, HN2.out⟩⟩
            · have HC := Lib.hid (callsTo_no (b := b) hxi hop)
              have he : (op == 14) = false := by simpa using hop
              clear hxi e0 e1 e2 e3 hRi hop
              go_wp2
              go_roundg (gk - 1)
              case measure => omega
              case rel => exact ⟨j + 1, by omega, by go_num, _, _, _, rfl, Lib.hid ⟨by rw [HC.out]; exact HQ.out.1, HQ.out.2⟩⟩
          · obtain rfl : j = ins.length := by omega
            go_wp2
            go_roundg (blocks.length - (b + 1))
            case measure => omega
            case rel => exact ⟨b + 1, by omega, by go_num, _, _, _, rfl, Lib.hid ⟨by rw [callsBl_succ HX.out]; exact HQ.out.1, HQ.out.2⟩⟩
      · obtain rfl : b = blocks.length := by omega
        go_wp2
        go_ret
        have h1 := HG.out.1.ret
        rw [HN.out]
        rw [← HG.out.1.len] at h1 ⊢
        exact h1

end Go.Proofs.YtonlidgmfmgcmaaGreat
