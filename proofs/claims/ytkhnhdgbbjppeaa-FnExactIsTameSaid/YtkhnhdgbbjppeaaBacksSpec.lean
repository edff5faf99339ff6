
/-
  The edges back, the reference's walk.
-/
import Derived.Test.YtkhnhdgbbjppeaaBacks
import Derived.Test.YtkhnhdgbbjppeaaSortedO
import Derived.Deep.DeepCutAuto
namespace Go.Proofs.Ytkhnhdgbbjppeaa
open Go.RowKit

def fArr (n : Nat) (f : Nat → Int) : List Value := (List.range n).map (fun v => Value.int .i64 (f v))
theorem fArr_len (n : Nat) (f : Nat → Int) : (fArr n f).length = n := by simp [fArr]
theorem fArr_set {n k : Nat} (f : Nat → Int) (x : Int) : (fArr n f).set k (.int .i64 x) = fArr n (fun v => if v = k then x else f v) := by
  apply List.ext_getElem?
  intro i
  rw [List.getElem?_set]
  unfold fArr
  by_cases h : k = i
  · subst h
    rw [if_pos rfl]
    by_cases hk : k < n <;> simp [hk]
  · rw [if_neg h]
    by_cases hi : i < n
    · simp [hi]
      exact fun e => absurd e.symm h
    · simp [hi]
theorem fArr_congr {n : Nat} {f f' : Nat → Int} (h : ∀ v, v < n → f v = f' v) : fArr n f = fArr n f' := by
  unfold fArr
  refine List.map_congr_left (fun v hv => ?_)
  rw [h v (List.mem_range.1 hv)]
theorem fArr_zero (n : Nat) : fArr n (fun _ => 0) = List.replicate n (Value.int .i64 0) := by
  unfold fArr
  rw [List.map_const', List.length_range]
theorem fArr_get {n k : Nat} (f : Nat → Int) (h : k < n) : (fArr n f)[k]? = some (.int .i64 (f k)) := by simp [fArr, h]

set_option maxRecDepth 100000 in
theorem l10Place_any (n : Nat) (hn : n ≤ 1048576) (L : List Int) (a : Option Addr) (cap : Nat) (w : World) (hin : IntsRd w a L.length L) (hL : ∀ z ∈ L, 0 ≤ z ∧ z < n) (hl : L.length ≤ 1048576) :
    Calls Try.prog 91 #[.int .i64 n, .slice a L.length cap] w fun e w' => RetInts w ((List.range n).map (fun v => plOf L ((v : Nat) : Int))) n e w' := by
  obtain ⟨i0, hi, hz0, hz1, hz2⟩ := info_parts info_int
  go_enter Try.func91, Try.ntmps91
  go_wp2_with (at_make; refine wpList_make_full _ rfl _ _ 40 rfl w.heap.size 3 i0 (.int .i64 0) 1 und_ints hi hz0 hz1 _ _ _ _ n rfl rfl rfl rfl ?b2 ?b3 ?b4 ?_)
  case b2 => rw [hz2]; omega
  case b3 => unfold maxLen; omega
  case b4 => exact Nat.le_refl _
  intro w1 hown hg
  have hb1 : Below w.heap.size w w1 := (Below.refl _ _).grown hg (Nat.le_refl _) (by simp)
  rw [toList_madeCells_one, ← fArr_zero] at hown
  have HO1 := Lib.hid (And.intro hown hb1)
  have HL := Lib.hid hL
  clear hown hg hb1 hL
  go_wp2
  go_loopg [6] n (fun F i wr => ∃ k : Nat, k + F = n ∧ i = .int .i64 k ∧ Hid (wr.ownsRow w.heap.size 3 1 (.slice (some ⟨w.heap.size, 0, none⟩) n n) n (fArr n (fun v => if v < k then -1 else 0)) ∧ Below w.heap.size w wr))
  case atStart => exact ⟨0, by omega, rfl, Lib.hid ⟨by simpa using HO1.out.1, HO1.out.2⟩⟩
  case round =>
    obtain ⟨k, hk, rfl, HK⟩ := hrel
    clear HO1
    by_cases hlt : k < n
    · have hfz := HK.out.1.frozenAt k
      have hcl := HK.out.1.cellAt k (by omega)
      rw [fArr_get _ hlt] at hcl
      have HN := Lib.hid (And.intro (HK.out.1.stored k (.int .i64 (-1))).1 (show Below w.heap.size w (wr.setCell ⟨w.heap.size, k, none⟩ (.int .i64 (-1))) from HK.out.2.setCell (Nat.le_refl _) _))
      go_wp2
      go_roundg (gk - 1)
      case measure => omega
      case rel =>
        refine ⟨k + 1, by omega, by go_num, Lib.hid ⟨?_, HN.out.2⟩⟩
        have h := HN.out.1
        rw [fArr_set] at h
        rw [fArr_congr (f' := fun v => if v = k then -1 else if v < k then -1 else 0) (fun v hv => by
          by_cases h1 : v = k
          · subst h1; simp
          · by_cases h2 : v < k
            · simp [h1, h2]; omega
            · simp [h1, h2]; omega)]
        exact h
    · obtain rfl : k = n := by omega
      have HK2 := Lib.hid (show wr.ownsRow w.heap.size 3 1 (.slice (some ⟨w.heap.size, 0, none⟩) k k) k (fArr k (fun v => plTo L (-1) 0 (v : Int))) ∧ Below w.heap.size w wr from ⟨by
        rw [fArr_congr (f' := fun v => if v < k then -1 else 0) (fun v hv => by simp [plTo, hv])]
        exact HK.out.1, HK.out.2⟩)
      clear HK
      go_wp2
      go_loopg [7] L.length (fun F i wr => ∃ j : Nat, j + F = L.length ∧ i = .int .i64 j ∧ Hid (wr.ownsRow w.heap.size 3 1 (.slice (some ⟨w.heap.size, 0, none⟩) k k) k (fArr k (fun v => plTo L (-1) j (v : Int))) ∧ Below w.heap.size w wr))
      case atStart => exact ⟨0, by omega, rfl, HK2⟩
      case round =>
        obtain ⟨j, hj, rfl, HK⟩ := hrel
        clear HK2
        by_cases hlt : j < L.length
        · obtain ⟨b, off, x, rfl, hx, hc⟩ := (hin.later HK.out.2).place hlt
          have hxb := HL.out x (List.mem_of_getElem? hx)
          obtain ⟨m, rfl⟩ : ∃ m : Nat, x = (m : Int) := ⟨x.toNat, by omega⟩
          have hmk : m < k := by omega
          have hmi : (m : Int) < (k : Int) := hxb.2
          have hfz := HK.out.1.frozenAt m
          have hcl := HK.out.1.cellAt m (by omega)
          rw [fArr_get _ hmk] at hcl
          have HN := Lib.hid (And.intro (HK.out.1.stored m (.int .i64 (j : Int))).1 (show Below w.heap.size w (wr.setCell ⟨w.heap.size, m, none⟩ (.int .i64 (j : Int))) from HK.out.2.setCell (Nat.le_refl _) _))
          have HX := Lib.hid hx
          clear hx hxb
          go_wp2
          go_roundg (gk - 1)
          case measure => omega
          case rel =>
            refine ⟨j + 1, by omega, by go_num, Lib.hid ⟨?_, HN.out.2⟩⟩
            have h := HN.out.1
            rw [fArr_set] at h
            rw [fArr_congr (f' := fun v => if v = m then (j : Int) else plTo L (-1) j (v : Int)) (fun v hv => by
              rw [plTo_succ HX.out]
              by_cases h1 : v = m
              · subst h1; simp
              · rw [if_neg h1, if_neg (by omega)])]
            exact h
        · obtain rfl : j = L.length := by omega
          go_wp2
          go_ret
          refine ⟨_, _, rfl, ?_, HK.out.2⟩
          have h := HK.out.1
          rw [List.map_map]
          exact h

/-- What stands while the rows are gathered: the code's block, a row of places, a row of numbers. -/
structure Bk (w : World) (lo B : Nat) (C : Array Value) (n : Nat) (pa : Option Addr) (pc : Nat) (pls : List Int) (na : Option Addr) (nc : Nat) (xs : List Int) (rows : List (List Int)) (oa : Option Addr) (on oc : Nat) (wq : World) : Prop where
  gath : GathM w rows oa on oc wq
  pls : wq.ownsRow lo 3 1 (.slice pa n pc) n (pls.map (Value.int .i64))
  code : wq.heap[w.heap.size]? = some (.cells C 51 (0, 0))
  nxt : wq.ownsRow B 3 1 (.slice na xs.length nc) xs.length (xs.map (Value.int .i64))
theorem Bk.later {w : World} {lo B : Nat} {C : Array Value} {n : Nat} {pa : Option Addr} {pc : Nat} {pls : List Int} {na : Option Addr} {nc : Nat} {xs : List Int} {rows : List (List Int)} {oa : Option Addr} {on oc : Nat} {wq w' : World}
    (h : Bk w lo B C n pa pc pls na nc xs rows oa on oc wq) (hb : Below wq.heap.size wq w') : Bk w lo B C n pa pc pls na nc xs rows oa on oc w' :=
  ⟨h.gath.later hb, ownsRow_below h.pls hb, (hb.block _ (Array.getElem?_eq_some_iff.1 h.code).1).trans h.code, ownsRow_below h.nxt hb⟩
theorem Bk.drewN {w : World} {lo B : Nat} {C : Array Value} {n : Nat} {pa : Option Addr} {pc : Nat} {pls : List Int} {na : Option Addr} {nc : Nat} {xs : List Int} {rows : List (List Int)} {oa : Option Addr} {on oc : Nat} {wq : World}
    (h : Bk w lo B C n pa pc pls na nc xs rows oa on oc wq) (q : Nat) : Bk w lo B C n pa pc pls na nc xs rows oa on oc (wq.drewN q) := h.later (below_drewN (Below.refl _ _) q)

set_option maxRecDepth 100000 in
set_option maxHeartbeats 2000000 in
theorem specBackEdges_any (p r : Int) (ba : Option Addr) (bc : Nat) (g : List (List Int)) (w : World) (hg : Gr w ba g) :
    Calls Try.prog 45 #[.agg #[.int .i64 p, .int .i64 r, .slice ba g.length bc]] w fun e w' => RetMat w (backsP g) (backsP g).length e w' := by
  have hb0 : Below w.heap.size w ((w.alloc (.cells #[.int .i64 p, .int .i64 r, .slice ba g.length bc] 51)).alloc (.cells #[] 40)) := ((Below.refl _ _).alloc (Nat.le_refl _) _).alloc (by simp) _
  have hrow : ((w.alloc (.cells #[.int .i64 p, .int .i64 r, .slice ba g.length bc] 51)).alloc (.cells #[] 40)).heap[w.heap.size]? = some (.cells #[.int .i64 p, .int .i64 r, .slice ba g.length bc] 51) := heap_alloc2_old w _ _
  have hk0 : ((w.alloc (.cells #[.int .i64 p, .int .i64 r, .slice ba g.length bc] 51)).alloc (.cells #[] 40)).cell? ⟨w.heap.size, 0, none⟩ = some (.int .i64 p) := cell_of_row _ _ 0 _ _ _ hrow
  have hk1 : ((w.alloc (.cells #[.int .i64 p, .int .i64 r, .slice ba g.length bc] 51)).alloc (.cells #[] 40)).cell? ⟨w.heap.size, 1, none⟩ = some (.int .i64 r) := cell_of_row _ _ 1 _ _ _ hrow
  have hk2 : ((w.alloc (.cells #[.int .i64 p, .int .i64 r, .slice ba g.length bc] 51)).alloc (.cells #[] 40)).cell? ⟨w.heap.size, 2, none⟩ = some (.slice ba g.length bc) := cell_of_row _ _ 2 _ _ _ hrow
  have HG0 := Lib.hid (show GathM w [] (some ⟨w.heap.size + 1, 0, none⟩) 0 0 ((w.alloc (.cells #[.int .i64 p, .int .i64 r, .slice ba g.length bc] 51)).alloc (.cells #[] 40)) from by have h := GathM.empty (w := w) ((Below.refl w.heap.size w).alloc (Nat.le_refl _) (.cells #[.int .i64 p, .int .i64 r, .slice ba g.length bc] 51)); rwa [World.size_alloc] at h)
  have HC := Lib.hid (And.intro (l10Fits_any p r ba bc g _ (hg.later hb0)) (And.intro hrow hb0))
  have hlen := hg.len
  clear hrow
  go_enter Try.func45, Try.ntmps45
  go_wp2_with fail
  generalize (w.alloc (.cells #[.int .i64 p, .int .i64 r, .slice ba g.length bc] 51)).alloc (.cells #[] 40) = W0 at HG0 HC hb0 hk0 hk1 hk2 ⊢
  refine HC.out.1.mono ?_
  rintro e w1 ⟨rfl, hb1⟩
  have hk0' := cell_later hb1 hk0
  have hk1' := cell_later hb1 hk1
  have hk2' := cell_later hb1 hk2
  have HG1 := Lib.hid (HG0.out.later hb1)
  have HC1 := Lib.hid ((hb1.block _ (Array.getElem?_eq_some_iff.1 HC.out.2.1).1).trans HC.out.2.1)
  have hb01 := hb0.trans (hb1.mono hb0.size)
  clear hk0 hk1 hk2 HG0 HC hb1 hb0
  cases hf : fits g with
  | false =>
    have HP := Lib.hid (show backsP g = [] by rw [backsP, hf]; rfl)
    clear hf
    go_wp2
    go_ret
    rw [HP.out]
    exact HG1.out.ret
  | true =>
    have hF := fits_iff.1 hf
    have hll := orderP_le hg
    have HP := Lib.hid (And.intro (backsP_to g) (And.intro (fun z (hz : z ∈ orderP g) => orderP_lt hz) hg.small))
    have HR := Lib.hid (fun q : Nat => show Calls Try.prog 82 #[.agg #[.int .i64 p, .int .i64 r, .slice ba g.length bc]] (w1.drewN q) fun e w' => RetInts (w1.drewN q) (orderP g) (orderP g).length e w' by
      rw [orderP, if_pos hf]; exact l10Order_any g hF p r ba bc (w1.drewN q) (hg.later (below_drewN hb01 q)))
    have HGR := Lib.hid hg
    have HF := Lib.hid hF
    clear hf hF hg
    generalize orderP g = L at HP HR hll
    go_upto_region 4 with fail
    go_cut [4] (fun pl wx => ∃ a c, pl = .slice a g.length c ∧ Hid (wx.ownsRow w1.heap.size 3 1 (.slice a g.length c) g.length ((((List.range g.length).map (fun v => plOf L ((v : Nat) : Int)))).map (Value.int .i64)) ∧ Below w1.heap.size w1 wx))
    case first =>
      go_region_law (first | (go_simp; go_at_call 82; refine (HR.out _).mono ?_; rintro e w2 ⟨oa, oc, rfl, hown2, hb2⟩; (have hb12 : Below w1.heap.size w1 w2 := ⟨hb2.os, hb2.tape, hb2.output, hb2.size, hb2.block⟩); (have hk0'' := cell_later hb12 hk0'); (have hk1'' := cell_later hb12 hk1'); (have hk2'' := cell_later hb12 hk2')) | (go_simp; go_at_call 91; refine (l10Place_any g.length hlen L oa oc w2 (ints_of_own hown2).toIntsRd HP.out.2.1 hll).mono ?_; rintro e w3 ⟨a3, c3, rfl, hown3, hb3⟩))
      all_goals
        have HN := Lib.hid (And.intro (own_lower hown3 (base' := w1.heap.size) (fun k hk => Nat.le_trans hb12.size (hown3.lt k hk).1)) (hb12.trans (hb3.mono hb12.size)))
        clear hb12 hk0'' hk1'' hk2'' hown2 hown3 hb2 hb3
        go_wp2_with fail
        go_meet
        exact ⟨_, _, rfl, HN⟩
    case rest =>
    obtain ⟨pa, pc, rfl, HPL⟩ := hcut
    have HW := Lib.hid (And.intro (HG1.out.later HPL.out.2) ((HPL.out.2.block _ (Array.getElem?_eq_some_iff.1 HC1.out).1).trans HC1.out))
    clear HG1 HC1 HR hk0' hk1' hk2'
    go_wp2_with fail
    go_loopg [3, 5] g.length (fun F o i wr => ∃ b : Nat, b + F = g.length ∧ i = .int .i64 b ∧ ∃ oa on oc, o = .slice oa on oc ∧ Hid (GathM w (backsTo g L b) oa on oc wr ∧ wr.ownsRow w1.heap.size 3 1 (.slice pa g.length pc) g.length ((((List.range g.length).map (fun v => plOf L ((v : Nat) : Int)))).map (Value.int .i64)) ∧ wr.heap[w.heap.size]? = some (.cells #[.int .i64 p, .int .i64 r, .slice ba g.length bc] 51)))
    case atStart => exact ⟨0, by omega, rfl, _, _, _, rfl, Lib.hid ⟨HW.out.1, HPL.out.1, HW.out.2⟩⟩
    case round =>
      obtain ⟨b, hb, rfl, oa, on, oc, rfl, HQ⟩ := hrel
      clear HW HPL
      have k2 : wr.cell? ⟨w.heap.size, 2, none⟩ = some (.slice ba g.length bc) := cell_of_row _ _ 2 _ _ _ HQ.out.2.2
      by_cases hlt : b < g.length
      · obtain ⟨b2, o2, l, na, nc, rfl, hl, hcl, hrd⟩ := (HGR.out.later HQ.out.1.below).place hlt
        have hll2 := HGR.out.row hl
        have hgl : g.getD b [] = l := by rw [List.getD_eq_getElem?_getD, hl]; rfl
        have hbi : (b : Int) < (g.length : Int) := by omega
        have HI2 := Lib.hid (fun (hb : (b : Int) ∈ L) (k : Nat) (hk : k ≤ (sortU l).length) => by have h := backsTo_in HP.out.2.2 L hlt hb (k := k) (by rw [hgl]; exact hk); rwa [hgl] at h)
        have HX2 := Lib.hid (fun x (hx : x ∈ sortU l) => row_in HF.out b x (by rw [hgl]; exact sortU_mem.1 hx))
        have HE2 := Lib.hid (And.intro (fun hb : (b : Int) ∈ L => show backsTo g L (b + 1) = backsTo g L b ++ backRow L (b : Int) (sortU l) (sortU l).length by
          rw [backsTo, if_pos hb, backAll, Int.toNat_natCast, hgl]) (fun hb : ¬ (b : Int) ∈ L => show backsTo g L (b + 1) = backsTo g L b by rw [backsTo, if_neg hb, List.append_nil]))
        clear hl hgl
        go_wp2_with fail
        refine (sortedO_any na nc l wr hrd hll2).mono ?_
        rintro e w4 ⟨na2, nc2, rfl, hown4, hb4⟩
        have hsl := sortU_len l
        obtain ⟨B, hB⟩ : ∃ B, B = wr.heap.size := ⟨_, rfl⟩
        rw [← hB] at hown4
        clear hB
        have HQ4 := Lib.hid (And.intro (HQ.out.1.later hb4) (And.intro (ownsRow_below HQ.out.2.1 hb4) (And.intro ((hb4.block _ (Array.getElem?_eq_some_iff.1 HQ.out.2.2).1).trans HQ.out.2.2) hown4)))
        clear hown4 hb4 hrd hcl k2 HQ
        generalize sortU l = xs at HQ4 HI2 HX2 HE2 hsl ⊢
        go_wp2_with fail
        by_cases hbL : (b : Int) ∈ L
        · have HE3 := Lib.hid (HE2.out.1 hbL)
          have hpb := plOf_nonneg.2 hbL
          clear HE2
          go_loopg [3, 7] xs.length (fun F o i wq => ∃ k : Nat, k + F = xs.length ∧ i = .int .i64 k ∧ ∃ oa on oc, o = .slice oa on oc ∧ Hid (Bk w w1.heap.size B #[.int .i64 p, .int .i64 r, .slice (some ⟨b2, o2, none⟩) g.length bc] g.length pa pc ((List.range g.length).map (fun v => plOf L ((v : Nat) : Int))) na2 nc2 xs (backsTo g L b ++ backRow L (b : Int) xs k) oa on oc wq))
          case atStart => exact ⟨0, by omega, rfl, _, _, _, rfl, Lib.hid ⟨by simpa [backRow] using HQ4.out.1, HQ4.out.2.1, HQ4.out.2.2.1, HQ4.out.2.2.2⟩⟩
          case round =>
            obtain ⟨k, hk, rfl, oa2, on2, oc2, rfl, HQ⟩ := hrel
            clear HQ4
            by_cases hlt3 : k < xs.length
            · obtain ⟨b4, o4, y, rfl, hy, hcy⟩ := (ints_of_own HQ.out.pls).toIntsRd.place hlt
              obtain rfl : y = plOf L (b : Int) := by simpa [hlt] using hy.symm
              obtain ⟨b5, o5, x, rfl, hx, hcx⟩ := (ints_of_own HQ.out.nxt).toIntsRd.place hlt3
              have hxr := HX2.out x (List.mem_of_getElem? hx)
              obtain ⟨m, rfl⟩ : ∃ m : Nat, x = (m : Int) := ⟨x.toNat, by omega⟩
              have hm : m < g.length := by omega
              have hmi : (m : Int) < (g.length : Int) := hxr.2
              obtain ⟨b6, o6, z, hab, hz, hcz⟩ := (ints_of_own HQ.out.pls).toIntsRd.place hm
              cases hab
              obtain rfl : z = plOf L (m : Int) := by simpa [hm] using hz.symm
              have hsm := HI2.out hbL k (by omega)
              rw [HQ.out.gath.len] at hsm
              have hxi : (k : Int) < (xs.length : Int) := by omega
              by_cases hop : plOf L (m : Int) ≤ plOf L (b : Int)
              · have HC := Lib.hid (And.intro (backRow_yes hx hop) hx)
                clear hy hz hx
                generalize plOf L (m : Int) = pm at hcz hop
                generalize plOf L (b : Int) = pb at hcy hpb hop
                have hd : decide ((0 : Int) ≤ pb) = true := decide_eq_true hpb
                have hd2 : decide (pm ≤ pb) = true := decide_eq_true hop
                go_wp2_with fail
                go_quiet (fail)
                have HQ2 := Lib.hid (HQ.out.drewN nq)
                clear hcy hcx hcz HQ
                generalize wr.drewN nq = wn at HQ2 ⊢
                have hcx := (ints_of_own HQ2.out.nxt).toIntsRd.cell HC.out.2
                obtain ⟨rows, hmm, hxs, hnd⟩ := HQ2.out.gath.mat
                have hbw := HQ2.out.gath.below
                have HM2 := Lib.hid (And.intro hbw (And.intro hmm (And.intro hnd hxs)))
                have hsz := hbw.size
                clear hmm hxs hnd hbw
                go_wp2_with (at_builtin; refine app_row rfl (.tmp 58) (.tmp 65) rfl w.heap.size _ on2 _ rfl ((HM2.out.2.1.alloc _).alloc _).own _ _ _ rfl (pair_row _ _ _) rfl (by omega) (by simp only [World.size_alloc]; omega) ?_; intro a5 c5 w5 hown5 hg5 hlies5)
                have HN := Lib.hid (GathM.push HM2.out.1 HM2.out.2.1 HM2.out.2.2.1 hown5 hg5)
                have HN3 := Lib.hid (And.intro (GathM.stands HM2.out.2.1 hg5 HQ2.out.pls) (And.intro (GathM.kept HM2.out.2.1 hg5 HQ2.out.code (by decide)) (GathM.stands HM2.out.2.1 hg5 HQ2.out.nxt)))
                clear hown5 hg5 hlies5
                go_roundg (gk - 1)
                case measure => omega
                case rel => exact ⟨k + 1, by omega, by go_num, a5, _, c5, rfl, Lib.hid ⟨by have h1 := HN.out; rw [HM2.out.2.2.2, List.append_assoc] at h1; rw [HC.out.1]; exact h1, HN3.out.1, HN3.out.2.1, HN3.out.2.2⟩⟩
              · have HC := Lib.hid (backRow_no hx hop)
                clear hy hz hx
                generalize plOf L (m : Int) = pm at hcz hop
                generalize plOf L (b : Int) = pb at hcy hpb hop
                have hd : decide ((0 : Int) ≤ pb) = true := decide_eq_true hpb
                have hd2 : decide (pm ≤ pb) = false := decide_eq_false hop
                go_wp2_with fail
                go_quiet (fail)
                go_wp2
                go_roundg (gk - 1)
                case measure => omega
                case rel => exact ⟨k + 1, by omega, by go_num, _, _, _, rfl, Lib.hid (by rw [HC.out]; exact HQ.out.drewN _)⟩
            · obtain rfl : k = xs.length := by omega
              go_wp2
              go_roundg (g.length - (b + 1))
              case measure => omega
              case rel => exact ⟨b + 1, by omega, by go_num, _, _, _, rfl, Lib.hid ⟨by rw [HE3.out]; exact HQ.out.gath, HQ.out.pls, HQ.out.code⟩⟩
        · have HE3 := Lib.hid (HE2.out.2 hbL)
          have hpb : ¬ 0 ≤ plOf L (b : Int) := fun h => hbL (plOf_nonneg.1 h)
          clear HE2
          go_loopg [3, 7] xs.length (fun F o i wq => ∃ k : Nat, k + F = xs.length ∧ i = .int .i64 k ∧ ∃ oa on oc, o = .slice oa on oc ∧ Hid (Bk w w1.heap.size B #[.int .i64 p, .int .i64 r, .slice (some ⟨b2, o2, none⟩) g.length bc] g.length pa pc ((List.range g.length).map (fun v => plOf L ((v : Nat) : Int))) na2 nc2 xs (backsTo g L b) oa on oc wq))
          case atStart => exact ⟨0, by omega, rfl, _, _, _, rfl, Lib.hid ⟨HQ4.out.1, HQ4.out.2.1, HQ4.out.2.2.1, HQ4.out.2.2.2⟩⟩
          case round =>
            obtain ⟨k, hk, rfl, oa2, on2, oc2, rfl, HQ⟩ := hrel
            clear HQ4
            by_cases hlt3 : k < xs.length
            · obtain ⟨b4, o4, y, rfl, hy, hcy⟩ := (ints_of_own HQ.out.pls).toIntsRd.place hlt
              obtain rfl : y = plOf L (b : Int) := by simpa [hlt] using hy.symm
              generalize plOf L (b : Int) = pb at hcy hpb
              have hd : decide ((0 : Int) ≤ pb) = false := decide_eq_false hpb
              clear hy
              go_wp2_with fail
              go_quiet (fail)
              go_wp2
              go_roundg (gk - 1)
              case measure => omega
              case rel => exact ⟨k + 1, by omega, by go_num, _, _, _, rfl, Lib.hid (HQ.out.drewN _)⟩
            · obtain rfl : k = xs.length := by omega
              go_wp2
              go_roundg (g.length - (b + 1))
              case measure => omega
              case rel => exact ⟨b + 1, by omega, by go_num, _, _, _, rfl, Lib.hid ⟨by rw [HE3.out]; exact HQ.out.gath, HQ.out.pls, HQ.out.code⟩⟩
      · obtain rfl : b = g.length := by omega
        go_wp2
        go_ret
        have h1 := HQ.out.1.ret
        have h5 := HQ.out.1.len
        rw [HP.out.1]
        rw [← h5] at h1 ⊢
        exact h1

end Go.Proofs.Ytkhnhdgbbjppeaa
