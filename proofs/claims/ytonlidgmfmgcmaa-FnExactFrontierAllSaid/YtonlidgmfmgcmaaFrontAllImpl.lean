
/-
  FrontierAll, the program's.
-/
import Derived.Test.YtonlidgmfmgcmaaFrontAll
import Derived.Test.YtonlidgmfmgcmaaFront2
import Derived.Test.YtonlidgmfmgcmaaFlags
import Derived.Test.YtonlidgmfmgcmaaIntClone
import Derived.Test.YtonlidgmfmgcmaaLoopSpec
import Derived.Deep.DeepCutAuto
namespace Go.Proofs.Ytonlidgmfmgcmaa
open Go.RowKit

theorem flags_blk {w : World} {M n : Nat} {G : Int → Bool} (h : FlagsAt w M n G) : ∃ es c, w.heap[M]? = some (.map es c) := by
  obtain ⟨D, ⟨es, c, h1, _⟩, _⟩ := h
  exact ⟨es, c, h1⟩
theorem QueAt.ne_map {w : World} {base gw ow n cw M k : Nat} {G : Int → Bool} {xs : List Int} (h : QueAt w base (some ⟨gw, ow, none⟩) n cw xs) (hf : FlagsAt w M k G) : gw ≠ M := by
  obtain ⟨_, _, _, g, off, cur, e, _, h2, _⟩ := h
  cases e
  obtain ⟨es, c, h3⟩ := flags_blk hf
  intro e
  rw [e, h3] at h2
  cases h2
theorem QueAt.lt {w : World} {base gw ow n cw : Nat} {xs : List Int} (h : QueAt w base (some ⟨gw, ow, none⟩) n cw xs) : base ≤ gw ∧ gw < w.heap.size := by
  obtain ⟨_, _, _, g, off, cur, e, h1, h2, _⟩ := h
  cases e
  exact ⟨h1, (Array.getElem?_eq_some_iff.1 h2).1⟩
theorem QueAt.beside {w w' : World} {base gw ow n cw M : Nat} {xs : List Int} (h : QueAt w base (some ⟨gw, ow, none⟩) n cw xs) (hg : w.grownBy w' (some M)) (hne : gw ≠ M) : QueAt w' base (some ⟨gw, ow, none⟩) n cw xs := by
  obtain ⟨h1, h2, h3, g, off, cur, e, h4, h5, h6, h7⟩ := h
  cases e
  exact ⟨h1, h2, h3, gw, ow, cur, rfl, h4, (hg.block _ (Array.getElem?_eq_some_iff.1 h5).1 (fun e => hne (by cases e; rfl))).trans h5, h6, h7⟩
def memB (out : List Int) : Int → Bool := fun x => decide (x ∈ out)
/-- The state of the program's loop. -/
structure FS (w : World) (M : Nat) (out : List Int) (gw ow cw : Nat) (work : List Int) (wr : World) : Prop where
  below : Below w.heap.size w wr
  lo : w.heap.size ≤ M
  map : FlagsAt wr M out.length (memB out)
  que : QueAt wr w.heap.size (some ⟨gw, ow, none⟩) work.length cw work
theorem FS.later {w : World} {M : Nat} {out : List Int} {gw ow cw : Nat} {work : List Int} {wr w' : World} (h : FS w M out gw ow cw work wr) (hb : Below wr.heap.size wr w') : FS w M out gw ow cw work w' :=
  ⟨h.below.trans (hb.mono h.below.size), h.lo, h.map.later hb, h.que.later hb⟩
theorem FS.tail {w : World} {M : Nat} {out : List Int} {gw ow cw : Nat} {x : Int} {work : List Int} {wr : World} (h : FS w M out gw ow cw (x :: work) wr) : FS w M out gw (if cw = 1 then ow else ow + 1) (cw - 1) work wr := by
  refine ⟨h.below, h.lo, h.map, ?_⟩
  have hq := QueAt.tail (x := x) (xs := work) (n := work.length) h.que
  by_cases hc : cw = 1
  · rw [if_pos hc] at hq ⊢; exact hq
  · rw [if_neg hc] at hq ⊢; exact hq
theorem FS.push {w : World} {M : Nat} {out : List Int} {gw ow cw : Nat} {work ys : List Int} {wr w' : World} {g' o' c' m : Nat} (h : FS w M out gw ow cw work wr) (hm : ys.length = m)
    (hq : QueAt w' w.heap.size (some ⟨g', o', none⟩) (work.length + m) c' (work ++ ys)) (hg : wr.grownBy w' (some gw)) : FS w M out g' o' c' (work ++ ys) w' := by
  refine ⟨h.below.grown hg h.below.size (fun k hk => by cases hk; exact h.que.lt.1), h.lo, h.map.stay (hg.block _ h.map.lt (fun e => ?_)), by rw [List.length_append, hm]; exact hq⟩
  cases e
  exact h.que.ne_map h.map rfl
theorem FS.put {w : World} {M : Nat} {out : List Int} {gw ow cw : Nat} {work : List Int} {wr w' : World} {x : Int} (h : FS w M out gw ow cw work wr) (hl : (ins out x).length = out.length + 1) (hf : FlagsAt w' M (out.length + 1) (fun j => decide (j = x) || memB out j)) (hg : wr.grownBy w' (some M)) : FS w M (ins out x) gw ow cw work w' := by
  refine ⟨h.below.grown hg h.below.size (fun k hk => by cases hk; exact h.lo), h.lo, ?_, h.que.beside hg (h.que.ne_map h.map)⟩
  rw [hl]
  refine hf.same (fun j => ?_)
  unfold memB
  rw [← Bool.decide_or]
  exact decide_eq_decide.2 (ins_mem x j out).symm
/-- The same, and a row of numbers beside. -/
structure FP (w : World) (M : Nat) (out : List Int) (gw ow cw : Nat) (work : List Int) (B : Nat) (pa : Option Addr) (pc : Nat) (ps : List Int) (wr : World) : Prop where
  fs : FS w M out gw ow cw work wr
  row : wr.ownsRow B 3 1 (.slice pa ps.length pc) ps.length (ps.map (Value.int .i64))
  ne : ∀ k, (Value.slice pa ps.length pc).ownBlock = some k → k ≠ gw
  ne2 : ∀ k, (Value.slice pa ps.length pc).ownBlock = some k → k ≠ M
theorem FP.later {w : World} {M : Nat} {out : List Int} {gw ow cw : Nat} {work : List Int} {B : Nat} {pa : Option Addr} {pc : Nat} {ps : List Int} {wr w' : World} (h : FP w M out gw ow cw work B pa pc ps wr) (hb : Below wr.heap.size wr w') : FP w M out gw ow cw work B pa pc ps w' :=
  ⟨h.fs.later hb, ownsRow_below h.row hb, h.ne, h.ne2⟩
theorem FP.push {w : World} {M : Nat} {out : List Int} {gw ow cw : Nat} {work ys : List Int} {B : Nat} {pa : Option Addr} {pc : Nat} {ps : List Int} {wr w' : World} {g' o' c' m : Nat} (h : FP w M out gw ow cw work B pa pc ps wr) (hm : ys.length = m)
    (hq : QueAt w' w.heap.size (some ⟨g', o', none⟩) (work.length + m) c' (work ++ ys)) (hg : wr.grownBy w' (some gw)) (hgg : g' = gw ∨ wr.heap.size ≤ g') : FP w M out g' o' c' (work ++ ys) B pa pc ps w' := by
  refine ⟨h.fs.push hm hq hg, own_beside h.row hg h.ne, fun k hk => ?_, h.ne2⟩
  have h1 := h.ne k hk
  have h2 := (h.row.lt k hk).2
  omega
theorem FP.put {w : World} {M : Nat} {out : List Int} {gw ow cw : Nat} {work : List Int} {B : Nat} {pa : Option Addr} {pc : Nat} {ps : List Int} {wr w' : World} {x : Int} (h : FP w M out gw ow cw work B pa pc ps wr) (hl : (ins out x).length = out.length + 1) (hf : FlagsAt w' M (out.length + 1) (fun j => decide (j = x) || memB out j)) (hg : wr.grownBy w' (some M)) : FP w M (ins out x) gw ow cw work B pa pc ps w' :=
  ⟨h.fs.put hl hf hg, own_beside h.row hg h.ne2, h.ne, h.ne2⟩

set_option maxRecDepth 100000 in
set_option maxHeartbeats 4000000 in
theorem frontierAll_any (p r : Int) (ba : Option Addr) (bc : Nat) (g : List (List Int)) (hf : Fits g) (db : Nat) (oa : Option Addr) (oc sb : Nat) (la : Option Addr) (lc : Nat) (list : List Int) (w : World) (hg : Gr w ba g) (hD : DomsAt w p r ba bc g db oa oc sb) (hin : IntsAt w la list.length lc list) (hll : list.length ≤ 1048576) :
    Calls Try.prog 20 #[.pointer (some ⟨db, 0, none⟩), .slice la list.length lc] w fun e w' => RetInts w (fallTo g (list.length + g.length + 1) [] list) (fallTo g (list.length + g.length + 1) [] list).length e w' := by
  have hmm := @run_makeMap Try.prog
  have hlen := hg.len
  have hpos := hf.pos
  have hb1 : Below w.heap.size w (w.alloc (.map #[] 0)) := (Below.refl _ _).alloc (Nat.le_refl _) _
  have HF := Lib.hid (And.intro hb1 (FlagsAt.made w))
  have HL := Lib.hid (clone_ret la list.length lc list (w.alloc (.map #[] 0)) (hin.later hb1) (by omega))
  have HD := Lib.hid (And.intro hD hg)
  obtain ⟨V, hV⟩ : ∃ V, V = fallTo g (list.length + g.length + 1) [] list := ⟨_, rfl⟩
  rw [← hV]
  have HV := Lib.hid hV.symm
  clear hV hD hg hin hb1
  go_enter Try.func20, Try.ntmps20
  go_wp2_with fail
  generalize w.alloc (.map #[] 0) = W0 at HF HL ⊢
  refine HL.out.mono ?_
  rintro e w1 ⟨ta, tc, rfl, hownT, hb1⟩
  obtain ⟨Z, hZ⟩ : ∃ Z, Z = list.length + g.length := ⟨_, rfl⟩
  have HB1 := Lib.hid (And.intro (HF.out.1.trans (hb1.mono HF.out.1.size)) (HF.out.2.later hb1))
  have hlow := HF.out.1.size
  have hfin : ∀ (out : List Int) (wr : World), FI g.length out → out = V → FlagsAt wr w.heap.size out.length (memB out) → Calls Try.prog 35 #[.map (some w.heap.size)] wr (fun e w' => RetInts wr V V.length e w') := by
    intro out wr hFI hO hM
    subst hO
    have hol := hFI.len
    refine sortedKeys_any w.heap.size out.length (memB out) out wr hM (by omega) hFI.asc (fun z => by unfold memB; simp) (fun z hz => ?_)
    have hz2 : z ∈ out := of_decide_eq_true hz
    have := hFI.rng z hz2
    exact WalkArith.wf_i64 (by omega)
  have HFIN := Lib.hid hfin
  clear hfin
  cases list with
  | nil =>
    have HD2 := Lib.hid (show ([] : List Int) = V by have := HV.out; rwa [fallTo_nil] at this)
    clear hownT hb1 HL
    go_wp2_with fail
    go_loopg [6] 0 (fun F s6 wr => F = 0 ∧ s6 = .slice ta 0 tc ∧ wr = w1)
    case atStart => exact ⟨rfl, rfl, rfl⟩
    case round =>
      obtain ⟨rfl, rfl, rfl⟩ := hrel
      go_wp2_with fail
      refine (HFIN.out [] wr (FI.nil _) HD2.out HB1.out.2).mono ?_
      rintro e w2 ⟨a2, c2, rfl, hown2, hb2⟩
      have HO := Lib.hid (And.intro (own_lower hown2 (base' := w.heap.size) (fun k hk => Nat.le_trans HB1.out.1.size (hown2.lt k hk).1)) (HB1.out.1.trans (hb2.mono HB1.out.1.size)))
      clear hown2 hb2
      go_wp2
      go_ret
      exact ⟨_, _, rfl, HO.out.1, HO.out.2⟩
  | cons x0 l0 =>
    obtain ⟨list, hlist⟩ : ∃ list, list = x0 :: l0 := ⟨_, rfl⟩
    rw [← hlist] at hownT HV hll hZ ⊢
    have hlpos : 0 < list.length := by rw [hlist]; simp
    obtain ⟨gT, rfl⟩ : ∃ gT, ta = some ⟨gT, 0, none⟩ := by
      rcases hownT.2 with ⟨h0, h1⟩ | ⟨g', cap', cur, e, _⟩
      · omega
      · cases e; exact ⟨g', rfl⟩
    have HS := Lib.hid (show FS w w.heap.size [] gT 0 tc list w1 from ⟨HB1.out.1, Nat.le_refl _, HB1.out.2, QueAt.of_own (own_lower hownT (base' := w.heap.size) (fun k hk => Nat.le_trans hlow (hownT.lt k hk).1))⟩)
    clear hownT hb1 HL hlist hlpos HB1 HF hlow
    go_wp2_with fail
    go_loopg [6] (list.length + g.length) (fun F s6 wr => ∃ out work : List Int, F = work.length + (g.length - out.length) ∧ F ≤ Z ∧ ∃ gw ow cw, s6 = .slice (some ⟨gw, ow, none⟩) work.length cw ∧
      Hid (FS w w.heap.size out gw ow cw work wr ∧ FI g.length out ∧ fallTo g (F + 1) out work = V))
    case atStart => exact ⟨[], list, by simp, by omega, gT, 0, tc, rfl, Lib.hid ⟨HS.out, FI.nil _, HV.out⟩⟩
    case round =>
      obtain ⟨out, work, hF, hFZ, gw, ow, cw, rfl, HK⟩ := hrel
      clear HS
      have hol := HK.out.2.1.len
      cases work with
      | nil =>
        have HD2 := Lib.hid (show out = V by have := HK.out.2.2; rwa [fallTo_nil] at this)
        go_wp2_with fail
        refine (HFIN.out out wr HK.out.2.1 HD2.out HK.out.1.map).mono ?_
        rintro e w2 ⟨a2, c2, rfl, hown2, hb2⟩
        have HO := Lib.hid (And.intro (own_lower hown2 (base' := w.heap.size) (fun k hk => Nat.le_trans HK.out.1.below.size (hown2.lt k hk).1)) (HK.out.1.below.trans (hb2.mono HK.out.1.below.size)))
        clear hown2 hb2
        go_wp2
        go_ret
        exact ⟨_, _, rfl, HO.out.1, HO.out.2⟩
      | cons b rest =>
        have hq0 := HK.out.1.que.rd.cell (i := 0) (x := b) rfl
        rw [Nat.add_zero] at hq0
        have hcw := HK.out.1.que.le
        have HT := Lib.hid HK.out.1.tail
        have hlc : 1 ≤ cw := by simp at hcw; omega
        have hrl : (b :: rest).length = rest.length + 1 := rfl
        rw [hrl] at hcw hF ⊢
        obtain ⟨ow2, hw2⟩ : ∃ o, o = (if cw = 1 then ow else ow + 1) := ⟨_, rfl⟩
        rw [← hw2] at HT
        have hcpos : (0 : Int) < (rest.length + 1 : Nat) := by omega
        go_upto_region 5 with fail
        go_cut [6] (fun s6 wx => s6 = .slice (some ⟨gw, ow2, none⟩) rest.length (cw - 1) ∧ Hid (wx = wr))
        case first =>
          by_cases hc1 : cw = 1
          · subst hc1
            rw [if_pos rfl] at hw2
            have HR0 := Lib.hid (show rest.length = 0 by omega)
            go_wp2_with fail
            go_meet
            exact ⟨by rw [hw2, HR0.out], Lib.hid rfl⟩
          · have hc2 : ¬ 1 = cw := fun e => hc1 e.symm
            rw [if_neg hc1] at hw2
            go_wp2_with fail
            go_meet
            exact ⟨by rw [hw2], Lib.hid rfl⟩
        case rest =>
        obtain ⟨rfl, HW⟩ := hcut
        obtain rfl := HW.out
        clear HW hw2 hq0
        have HDW := Lib.hid (HD.out.1.later HT.out.below)
        go_wp2_with fail
        refine (has_any p r ba bc g db oa oc sb b _ HDW.out hlen).mono ?_
        rintro e w2 ⟨rfl, hb2⟩
        have HT2 := Lib.hid (HT.out.later hb2)
        clear hb2
        cases hh : hasP g b with
        | false =>
          have HF2 := Lib.hid (show stepF g b out rest = (out, rest) by rw [stepF, frontP_of hf, hh]; rfl)
          have HN := Lib.hid (fun (F : Nat) (h : fallTo g (F + 1) out (b :: rest) = V) => fallTo_step h HF2.out)
          clear hh
          go_wp2
          go_roundg (rest.length + (g.length - out.length))
          case measure => omega
          case rel => exact ⟨out, rest, rfl, by omega, gw, ow2, cw - 1, rfl, Lib.hid ⟨HT2.out, HK.out.2.1, HN.out _ (by have h := HK.out.2.2; rw [hF] at h; rw [show rest.length + (g.length - out.length) + 1 = rest.length + 1 + (g.length - out.length) by omega]; exact h)⟩⟩
        | true =>
          simp only [hasP, Bool.and_eq_true, okN_iff] at hh
          obtain ⟨y, rfl⟩ : ∃ y : Nat, b = (y : Int) := ⟨b.toNat, by omega⟩
          have hyl : y < g.length := by omega
          have HST := Lib.hid (show stepF g (y : Int) out rest = (filtTo (frontB g y) g.length).foldl addF (out, rest) by rw [stepF, frontP_in hf hyl])
          have HFR := Lib.hid (fun x (hx : x ∈ filtTo (frontB g y) g.length) => frontP_rng (g := g) (b := (y : Int)) (x := x) (by rw [frontP_in hf hyl]; exact hx))
          have hnl := filtTo_len (frontB g y) g.length
          clear hh
          go_wp2_with fail
          refine (frontier_any p r ba bc g db oa oc sb y hyl w2 (HD.out.2.later HT2.out.below) (HD.out.1.later HT2.out.below) hlen).mono ?_
          rintro e w3 ⟨na, nc, rfl, hown3, hb3⟩
          generalize filtTo (frontB g y) g.length = next at HST HFR hnl hown3 ⊢
          have HP := Lib.hid (show FP w w.heap.size out gw ow2 (cw - 1) rest w2.heap.size na nc next w3 from
            ⟨HT2.out.later hb3, hown3, fun k hk e => by have h1 := (hown3.lt k hk).1; have := HT2.out.que.lt; omega, fun k hk e => by have h1 := (hown3.lt k hk).1; have := HT2.out.map.lt; omega⟩)
          obtain ⟨B, hB⟩ : ∃ B, B = w2.heap.size := ⟨_, rfl⟩
          rw [← hB] at HP
          have HI := Lib.hid HK.out.2
          clear hown3 hb3 HT HT2 HK hB HDW
          go_wp2_with fail
          go_loopg [6, 29] next.length (fun F s6 i wq => ∃ k : Nat, k + F = next.length ∧ i = .int .i64 k ∧ ∃ gw ow cw, s6 = .slice (some ⟨gw, ow, none⟩) ((next.take k).foldl addF (out, rest)).2.length cw ∧
            Hid (FP w w.heap.size ((next.take k).foldl addF (out, rest)).1 gw ow cw ((next.take k).foldl addF (out, rest)).2 B na nc next wq))
          case atStart => exact ⟨0, by omega, rfl, gw, ow2, cw - 1, rfl, HP⟩
          case round =>
            obtain ⟨k, hk, rfl, gw2, ow3, cw2, rfl, HK⟩ := hrel
            clear HP
            have hAt := HI.out.1.at (work := rest) HFR.out k
            have hsl := hAt.1.len
            have hsm := hAt.2
            have HA := Lib.hid hAt.1
            clear hAt
            by_cases hlt : k < next.length
            · obtain ⟨nb, no, x, rfl, hx, hcx⟩ := (ints_of_own HK.out.row).toIntsRd.place hlt
              have HX := Lib.hid (And.intro (fold_next (s := (out, rest)) hx) (HFR.out x (List.mem_of_getElem? hx)))
              have hki : (k : Int) < (next.length : Int) := by omega
              clear hx
              generalize (next.take k).foldl addF (out, rest) = S at HX HK HA hsl hsm ⊢
              obtain ⟨So, Sw⟩ := S
              have HX := Lib.hid (show (next.take (k + 1)).foldl addF (out, rest) = addF (So, Sw) x ∧ (0 ≤ x ∧ x < (g.length : Int)) from HX.out)
              have HK := Lib.hid (show FP w w.heap.size So gw2 ow3 cw2 Sw B (some ⟨nb, no, none⟩) nc next wr from HK.out)
              have hsl : So.length ≤ g.length := hsl
              have hsm : Sw.length + (g.length - So.length) = rest.length + (g.length - out.length) := hsm
              have HA := Lib.hid (show FI g.length So from HA.out)
              dsimp only
              have hwf := WalkArith.wf_i64 (n := x) (by have := HX.out.2; omega)
              have hlk := HK.out.fs.map.look hwf
              by_cases hxo : x ∈ So
              · have HN := Lib.hid (show (next.take (k + 1)).foldl addF (out, rest) = (So, Sw) by rw [HX.out.1, addF, if_pos hxo])
                rw [show memB So x = true from decide_eq_true hxo] at hlk
                clear hxo hwf
                go_wp2
                go_roundg (gk - 1)
                case measure => omega
                case rel => exact ⟨k + 1, by omega, by go_num, gw2, ow3, cw2, by rw [HN.out], Lib.hid (by rw [HN.out]; exact HK.out)⟩
              · have HN := Lib.hid (show (next.take (k + 1)).foldl addF (out, rest) = (ins So x, Sw ++ [x]) by rw [HX.out.1, addF, if_neg hxo])
                obtain ⟨w5, hput, hf5, hg5⟩ := HK.out.fs.map.put (by unfold maxLen; omega) hwf
                have HK2 := Lib.hid (HK.out.put (ins_len HA.out.asc hxo) hf5 hg5)
                rw [show memB So x = false from decide_eq_false hxo] at hlk
                clear hxo hwf hf5 hg5 HK
                generalize ins So x = So2 at HN HK2
                have HKA := Lib.hid (HK2.out.later ((Below.refl w5.heap.size w5).alloc (Nat.le_refl _) (.cells #[.int .i64 x] 3)))
                have hsz := HK2.out.fs.below.size
                go_wp2_with (at_builtin; refine app_que rfl (.tmp 39) (.tmp 41) rfl rfl HKA.out.fs.que _ 1 _ [x] rfl rfl (rowAt_one _ _ _) (by rintro ⟨⟩) (by omega) (by simp; omega) ?_; intro g6 o6 c6 w6 hq6 hg6 hgg6)
                have HN2 := Lib.hid (HKA.out.push (m := 1) rfl hq6 hg6 hgg6)
                clear hq6 hg6 hgg6
                go_roundg (gk - 1)
                case measure => omega
                case rel => exact ⟨k + 1, by omega, by go_num, g6, o6, c6, by rw [HN.out, List.length_append]; rfl, Lib.hid (by rw [HN.out]; exact HN2.out)⟩
            · obtain rfl : k = next.length := by omega
              have HE := Lib.hid (show stepF g (y : Int) out rest = (next.take next.length).foldl addF (out, rest) by rw [HST.out, List.take_length])
              generalize (next.take next.length).foldl addF (out, rest) = S at HE HK HA hsl hsm ⊢
              have HE2 := Lib.hid (fun (F : Nat) (h : fallTo g (F + 1) out ((y : Int) :: rest) = V) => fallTo_step h HE.out)
              go_wp2
              go_roundg (S.2.length + (g.length - S.1.length))
              case measure => omega
              case rel => exact ⟨S.1, S.2, rfl, by omega, gw2, ow3, cw2, rfl, Lib.hid ⟨HK.out.fs, HA.out, HE2.out _ (by have h := HI.out.2; rw [hF] at h; rw [hsm, show rest.length + (g.length - out.length) + 1 = rest.length + 1 + (g.length - out.length) by omega]; exact h)⟩⟩

set_option maxRecDepth 100000 in
set_option maxHeartbeats 1000000 in
theorem implFrontierAll_any (p r : Int) (ba : Option Addr) (bc : Nat) (g : List (List Int)) (la : Option Addr) (lc : Nat) (list : List Int) (w : World) (hg : Gr w ba g) (hin : IntsAt w la list.length lc list) (hll : list.length ≤ 1048576) :
    Calls Try.prog 8 #[.agg #[.int .i64 p, .int .i64 r, .slice ba g.length bc], .slice la list.length lc] w fun e w' => RetInts w (fallP g list) (fallP g list).length e w' := by
  have hb0 := below_box w (.int .i64 p) (.int .i64 r) (.slice ba g.length bc)
  have hlen := hg.len
  go_enter Try.func8, Try.ntmps8
  go_wp2_with fail
  refine (domsOf_any g p r ba bc _ (hg.later hb0)).mono ?_
  rintro e w1 ⟨hb1, hcase⟩
  have hb01 := hb0.trans (hb1.mono hb0.size)
  rcases hcase with ⟨hf, rfl⟩ | ⟨hf, db, oa, oc, sb, rfl, hD⟩
  · have HP := Lib.hid (show fallP g list = [] by rw [fallP, hf]; rfl)
    clear hf
    go_wp2
    go_ret
    rw [HP.out]
    exact ⟨none, 0, rfl, World.ownsRow_nil _ _ _ _, hb01⟩
  · have HP := Lib.hid (show fallP g list = fallTo g (list.length + g.length + 1) [] list by rw [fallP, fits_iff.2 hf]; rfl)
    go_wp2_with fail
    refine (frontierAll_any p r ba bc g hf db oa oc sb la lc list w1 (hg.later hb01) hD (hin.later hb01) hll).mono ?_
    rintro e w3 ⟨a3, c3, rfl, hown3, hb3⟩
    have HO3 := Lib.hid (And.intro hown3 hb3)
    clear hown3 hb3
    go_wp2
    go_ret
    rw [HP.out]
    exact ⟨_, _, rfl, own_lower HO3.out.1 (fun k hk => by have := (HO3.out.1.lt k hk).1; have := hb01.size; omega), hb01.trans (HO3.out.2.mono hb01.size)⟩

end Go.Proofs.Ytonlidgmfmgcmaa
