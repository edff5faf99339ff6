
/-
  The program's table of what dominates what.
-/
import Derived.Test.YtkhnhdgbbjppeaaReach
import Derived.Deep.DeepCutAuto
namespace Go.Proofs.Ytkhnhdgbbjppeaa
open Go.RowKit

/-- The table as it lies in memory. -/
structure DomsAt (w : World) (p r : Int) (ba : Option Addr) (bc : Nat) (g : List (List Int)) (db : Nat) (oa : Option Addr) (oc sb : Nat) : Prop where
  blk : w.heap[db]? = some (.cells #[.int .i64 p, .int .i64 r, .slice ba g.length bc, .slice oa g.length oc, .slice (some ⟨sb, 0, none⟩) g.length g.length] 126 (0, 0))
  over : BMat w oa g.length (domMat g)
  inn : BoolsRd w (some ⟨sb, 0, none⟩) g.length (reachRow g (-1))
theorem DomsAt.later {w w' : World} {p r : Int} {ba : Option Addr} {bc : Nat} {g : List (List Int)} {db : Nat} {oa : Option Addr} {oc sb : Nat} (h : DomsAt w p r ba bc g db oa oc sb) (hb : Below w.heap.size w w') : DomsAt w' p r ba bc g db oa oc sb :=
  ⟨(hb.block _ (Array.getElem?_eq_some_iff.1 h.blk).1).trans h.blk, h.over.later bRowR_lasts hb, h.inn.later hb⟩

/-- The state of the program's loop over the blocks. -/
structure DI (g : List (List Int)) (p r : Int) (ba : Option Addr) (bc db sb : Nat) (w : World) (k : Nat) (oa : Option Addr) (oc : Nat) (wr : World) : Prop where
  cblk : wr.heap[w.heap.size]? = some (.cells #[.int .i64 p, .int .i64 r, .slice ba g.length bc] 51 (0, 0))
  dblk : wr.heap[db]? = some (.cells #[.int .i64 p, .int .i64 r, .slice ba g.length bc, .slice oa k oc, .slice (some ⟨sb, 0, none⟩) g.length g.length] 126 (0, 0))
  below : Below w.heap.size w wr
  lt : w.heap.size < wr.heap.size
  dlt : w.heap.size < db
  inn : wr.ownsRow w.heap.size 4 1 (.slice (some ⟨sb, 0, none⟩) g.length g.length) g.length ((reachRow g (-1)).map Value.bool)
  out : BMatOwn wr w.heap.size oa k oc ((domMat g).take k)
theorem DI.later {g : List (List Int)} {p r : Int} {ba : Option Addr} {bc db sb : Nat} {w : World} {k : Nat} {oa : Option Addr} {oc : Nat} {wr w' : World} (h : DI g p r ba bc db sb w k oa oc wr) (hb : Below wr.heap.size wr w') : DI g p r ba bc db sb w k oa oc w' :=
  ⟨(hb.block _ h.lt).trans h.cblk, (hb.block _ (Array.getElem?_eq_some_iff.1 h.dblk).1).trans h.dblk, h.below.trans (hb.mono h.below.size), Nat.lt_of_lt_of_le h.lt hb.size, h.dlt, ownsRow_below h.inn hb, h.out.below hb⟩

/-- The table has grown by a row: an append, and a store. -/
theorem DI.snoc {g : List (List Int)} {p r : Int} {ba : Option Addr} {bc db sb : Nat} {w : World} {k : Nat} {oa : Option Addr} {oc : Nat} {wr w' : World} {a' ra : Option Addr} {c' rc : Nat} {bs : List Bool} (h : DI g p r ba bc db sb w k oa oc wr) (hb : (domMat g)[k]? = some bs)
    (vals : List Value) (hv : wr.ownsRow w.heap.size 124 1 (.slice oa k oc) k vals) (h2 : ∀ (i : Nat) v bs, vals[i]? = some v → ((domMat g).take k)[i]? = some bs → ∃ ra rc, v = .slice ra bs.length rc ∧ wr.ownsRow w.heap.size 4 1 v bs.length (bs.map Value.bool))
    (hr : wr.ownsRow w.heap.size 4 1 (.slice ra bs.length rc) bs.length (bs.map Value.bool)) (hg : wr.grownBy w' (Value.slice oa k oc).ownBlock)
    (hn : w'.ownsRow w.heap.size 124 1 (.slice a' (k + 1) c') (k + 1) (vals ++ [.slice ra bs.length rc])) :
    w'.heap[db]? = some (.cells #[.int .i64 p, .int .i64 r, .slice ba g.length bc, .slice oa k oc, .slice (some ⟨sb, 0, none⟩) g.length g.length] 126 (0, 0)) ∧ DI g p r ba bc db sb w (k + 1) a' c' (w'.setCell ⟨db, 3, none⟩ (.slice a' (k + 1) c')) := by
  have hdlt : db < wr.heap.size := (Array.getElem?_eq_some_iff.1 h.dblk).1
  have hC : w'.heap[w.heap.size]? = _ := (hg.block _ h.lt (fun e => by
    obtain ⟨cur, hc⟩ := own_type hv e.symm
    rw [h.cblk] at hc
    simp at hc)).trans h.cblk
  have hD : w'.heap[db]? = _ := (hg.block _ hdlt (fun e => by
    obtain ⟨cur, hc⟩ := own_type hv e.symm
    rw [h.dblk] at hc
    simp at hc)).trans h.dblk
  have hout : BMatOwn w' w.heap.size a' (k + 1) c' ((domMat g).take (k + 1)) := by
    rw [take_succ_of hb]
    exact h.out.snoc hr vals hv h2 hg hn rfl
  have hin : w'.ownsRow w.heap.size 4 1 (.slice (some ⟨sb, 0, none⟩) g.length g.length) g.length ((reachRow g (-1)).map Value.bool) :=
    own_turned (S := fun j => (Value.slice oa k oc).ownBlock = some j) h.inn (turned_of_grown hg (fun j hj => hj)) (fun j hj => own_apart h.inn hv (by decide) hj)
  have hts : Turned (fun j => j = db) w' (w'.setCell ⟨db, 3, none⟩ (.slice a' (k + 1) c')) := ⟨rfl, rfl, rfl, by rw [World.size_setCell]; exact Nat.le_refl _, fun j _ hj => heap_setCell_other w' _ j _ (fun e => hj e)⟩
  have hne : ∀ {e : TypeId} {v : Value} {n : Nat} {xs : List Value}, w'.ownsRow w.heap.size e 1 v n xs → e ≠ 126 → w'.heap.size = w'.heap.size → (w'.setCell ⟨db, 3, none⟩ (.slice a' (k + 1) c')).ownsRow w.heap.size e 1 v n xs := fun hx he _ =>
    own_turned hx hts (fun j hj e2 => by
      obtain ⟨cur, hc⟩ := own_type hx hj
      rw [e2, hD] at hc
      simp at hc
      exact he hc.2.symm)
  refine ⟨hD, ⟨?_, ?_, ?_, ?_, h.dlt, hne hin (by decide) rfl, ?_⟩⟩
  · rw [heap_setCell_other _ _ _ _ (by show w.heap.size ≠ db; have := h.dlt; omega)]; exact hC
  · rw [heap_setCell_same w' db 3 _ _ _ hD]; rfl
  · exact (h.below.trans ((Below.refl _ _).grown hg h.below.size (fun j hj => (hv.lt j hj).1))).setCell (by show w.heap.size ≤ db; have := h.dlt; omega) _
  · rw [World.size_setCell]; exact Nat.lt_of_lt_of_le h.lt hg.size
  · obtain ⟨hl, vals', h3, h4⟩ := hout
    exact ⟨hl, vals', hne h3 (by decide) rfl, fun i v bs h5 h6 => by obtain ⟨ra, rc, h7, h8⟩ := h4 i v bs h5 h6; exact ⟨ra, rc, h7, hne h8 (by decide) rfl⟩⟩

theorem domRow_unreached {g : List (List Int)} {k : Nat} (h : reachB g (-1) k = false) : domRow g k = List.replicate g.length false := by
  apply List.ext_getElem?
  intro v
  by_cases hv : v < g.length
  · rw [domRow_get hv, List.getElem?_replicate, if_pos hv, domB, h, Bool.false_and]
  · rw [List.getElem?_eq_none (by rw [domRow_length]; omega), List.getElem?_eq_none (by simp; omega)]

set_option maxRecDepth 100000 in
set_option maxHeartbeats 4000000 in
theorem domsOf_any (g : List (List Int)) (p r : Int) (ba : Option Addr) (bc : Nat) (w : World) (hg : Gr w ba g) :
    Calls Try.prog 87 #[.agg #[.int .i64 p, .int .i64 r, .slice ba g.length bc]] w fun e w' =>
      Below w.heap.size w w' ∧ ((fits g = false ∧ e = .returned (.pointer none)) ∨ (Fits g ∧ ∃ db oa oc sb, e = .returned (.pointer (some ⟨db, 0, none⟩)) ∧ DomsAt w' p r ba bc g db oa oc sb)) := by
  obtain ⟨i0, hi, hz0, hz1, hz2⟩ := info_parts info_bool
  have hlen := hg.len
  have HI := Lib.hid (And.intro hi (And.intro hz0 (And.intro hz1 hz2)))
  clear hi hz0 hz1 hz2
  have hb0 : Below w.heap.size w (w.alloc (.cells #[.int .i64 p, .int .i64 r, .slice ba g.length bc] 51)) := (Below.refl _ _).alloc (Nat.le_refl _) _
  have hcl : (w.alloc (.cells #[.int .i64 p, .int .i64 r, .slice ba g.length bc] 51)).heap[w.heap.size]? = some (.cells #[.int .i64 p, .int .i64 r, .slice ba g.length bc] 51 (0, 0)) := heap_alloc_new w _
  have hs0 : (w.alloc (.cells #[.int .i64 p, .int .i64 r, .slice ba g.length bc] 51)).heap.size = w.heap.size + 1 := by simp
  have HH := Lib.hid (And.intro hb0 (And.intro hcl hs0))
  clear hb0 hcl hs0
  go_enter Try.func87, Try.ntmps87
  go_wp2_with fail
  generalize w.alloc (.cells #[.int .i64 p, .int .i64 r, .slice ba g.length bc] 51) = W0 at HH ⊢
  have hg0 := hg.later HH.out.1
  refine (graphOk_any p r ba bc g W0 hg0).mono ?_
  rintro e w1 ⟨rfl, hb1⟩
  have hbw1 : Below w.heap.size w w1 := HH.out.1.trans (hb1.mono HH.out.1.size)
  have hC1 := (hb1.block w.heap.size (by have := HH.out.2.2; omega)).trans HH.out.2.1
  have hk0 : w1.cell? ⟨w.heap.size, 0, none⟩ = some (.int .i64 p) := cell_of_row _ _ 0 _ _ _ hC1
  have hk1 : w1.cell? ⟨w.heap.size, 1, none⟩ = some (.int .i64 r) := cell_of_row _ _ 1 _ _ _ hC1
  have hk2 : w1.cell? ⟨w.heap.size, 2, none⟩ = some (.slice ba g.length bc) := cell_of_row _ _ 2 _ _ _ hC1
  cases hfit : fits g with
  | false =>
    have HF := Lib.hid hfit
    clear hfit
    go_wp2
    go_ret
    exact ⟨hbw1, .inl ⟨HF.out, rfl⟩⟩
  | true =>
    have hF := fits_iff.1 hfit
    have hw1 : w.heap.size < w1.heap.size := by have := hb1.size; have := HH.out.2.2; omega
    have HR := Lib.hid (fun q : Nat => reachedWithout_any g hF p r ba bc (-1) (w1.drewN q) (hg.later (below_drewN hbw1 q)))
    have HC1 := Lib.hid hC1
    clear hfit hC1 hb1
    go_upto_region 3 with fail
    go_cut [3] (fun d wx => ∃ db sb, d = .pointer (some ⟨db, 0, none⟩) ∧ Hid (DI g p r ba bc db sb w 0 none 0 wx))
    case first =>
      go_region_law (go_simp; go_at_call 134; refine (HR.out _).mono ?_; rintro e w2 ⟨sb, rfl, hown2, hb2⟩; (have hbw2 : Below w1.heap.size w1 w2 := ⟨hb2.os, hb2.tape, hb2.output, hb2.size, hb2.block⟩); (have hk0' := cell_later hbw2 hk0); (have hk1' := cell_later hbw2 hk1); (have hk2' := cell_later hbw2 hk2))
      all_goals
        have hDI : DI g p r ba bc w2.heap.size sb w 0 none 0 (w2.alloc (.cells #[.int .i64 p, .int .i64 r, .slice ba g.length bc, .slice none 0 0, .slice (some ⟨sb, 0, none⟩) g.length g.length] 126)) := by
          have hsz := hbw2.size
          refine ⟨(heap_alloc_old w2 _ (by omega)).trans ((hbw2.block _ hw1).trans HC1.out), heap_alloc_new w2 _, (hbw1.trans (hbw2.mono (by omega))).alloc (by omega) _, by simp; omega, by omega, own_lower (hown2.alloc _) (fun j hj => ?_), BMatOwn.nil _ _⟩
          have := (hown2.lt j hj).1
          have hq : w1.heap.size ≤ j := this
          omega
        have HDI := Lib.hid hDI
        clear hDI hbw2 hb2 hown2
        go_wp2_with fail
        go_meet
        exact ⟨_, sb, rfl, HDI⟩
    case rest =>
    obtain ⟨db, sb, rfl, HDI⟩ := hcut
    have hkw2 : wc.cell? ⟨w.heap.size, 2, none⟩ = some (.slice ba g.length bc) := cell_of_row _ _ 2 _ _ _ HDI.out.cblk
    clear hk0 hk1 hk2 HR HC1
    go_wp2
    clear hkw2
    go_loopg [19] g.length (fun F i wr => ∃ k : Nat, k + F = g.length ∧ i = .int .i64 k ∧ ∃ oa oc, Hid (DI g p r ba bc db sb w k oa oc wr))
    case atStart => exact ⟨0, by omega, rfl, _, _, HDI⟩
    case round =>
        obtain ⟨k, hk, rfl, oa, oc, HK⟩ := hrel
        clear HDI
        have hkw2 : wr.cell? ⟨w.heap.size, 2, none⟩ = some (.slice ba g.length bc) := cell_of_row _ _ 2 _ _ _ HK.out.cblk
        by_cases hlt : k < g.length
        · go_upto_if 32 with (at_make; refine wpList_make_full _ rfl _ _ 124 rfl w.heap.size 4 i0 (.bool false) 1 und_bools HI.out.1 HI.out.2.1 HI.out.2.2.1 _ _ _ _ g.length rfl rfl rfl rfl (by rw [HI.out.2.2.2]; omega) (by unfold maxLen; omega) (by have := HK.out.lt; omega) ?_; intro w3 hown3 hg3; rw [made_bools] at hown3; (have hb3 : Below wr.heap.size wr w3 := (Below.refl _ _).grown hg3 (Nat.le_refl _) (by simp)); (have hk3 := HK.out.later hb3); (have hd4 : w3.cell? ⟨db, 4, none⟩ = some (.slice (some ⟨sb, 0, none⟩) g.length g.length) := cell_of_row _ _ 4 _ _ _ hk3.dblk); (have hci := hk3.inn.cellAt k (by omega)); rw [List.getElem?_map, reachRow_get hlt, Option.map_some] at hci; (have hk0 : w3.cell? ⟨w.heap.size, 0, none⟩ = some (.int .i64 p) := cell_of_row _ _ 0 _ _ _ hk3.cblk); (have hk1 : w3.cell? ⟨w.heap.size, 1, none⟩ = some (.int .i64 r) := cell_of_row _ _ 1 _ _ _ hk3.cblk); (have hk2 : w3.cell? ⟨w.heap.size, 2, none⟩ = some (.slice ba g.length bc) := cell_of_row _ _ 2 _ _ _ hk3.cblk))
          go_cut [5] (fun rw wx => ∃ rb, rw = .slice (some ⟨rb, 0, none⟩) g.length g.length ∧ Hid (DI g p r ba bc db sb w k oa oc wx ∧ wx.ownsRow w.heap.size 4 1 (.slice (some ⟨rb, 0, none⟩) g.length g.length) g.length ((domRow g k).map Value.bool)))
          case first =>
            have hrlt := (hown3.lt wr.heap.size rfl).2
            have HK3 := Lib.hid (And.intro hk3 (And.intro hown3 hb3))
            clear hk3 hown3 hg3 hb3
            cases hra : reachB g (-1) k with
            | false =>
              have HRA := Lib.hid hra
              rw [hra] at hci
              clear hra
              go_wp2_with fail
              go_meet
              exact ⟨_, rfl, Lib.hid ⟨HK3.out.1, by rw [domRow_unreached HRA.out]; exact HK3.out.2.1⟩⟩
            | true =>
              have HRA := Lib.hid hra
              rw [hra] at hci
              clear hra
              go_wp2_with fail
              refine (reachedWithout_any g hF p r ba bc k w3 (hg.later (HK3.out.1.below))).mono ?_
              rintro e w4 ⟨lb, rfl, hown4, hb4⟩
              have hk4 := HK3.out.1.later hb4
              have HK4 := Lib.hid (And.intro hk4 (And.intro hown4 (And.intro (ownsRow_below HK3.out.2.1 hb4) (HK3.out.2.2.trans (hb4.mono HK3.out.2.2.size)))))
              have hlb := (hown4.lt lb rfl).1
              have hdb : db < wr.heap.size := (Array.getElem?_eq_some_iff.1 HK.out.dblk).1
              have hsbl := (HK.out.inn.lt sb rfl).2
              clear hk4 hown4 hb4 hd4 hci hk0 hk1 hk2 hkw2
              go_wp2
              go_loopg [38] g.length (fun F j wq => ∃ m : Nat, m + F = g.length ∧ j = .int .i64 m ∧ Hid (Turned (fun x => x = wr.heap.size) w4 wq ∧ wq.ownsRow w.heap.size 4 1 (.slice (some ⟨wr.heap.size, 0, none⟩) g.length g.length) g.length (((domRow g k).take m).map Value.bool ++ List.replicate (g.length - m) (Value.bool false))))
              case atStart => exact ⟨0, by omega, rfl, Lib.hid ⟨Turned.refl _ _, by have := HK4.out.2.2.1; rw [List.map_replicate] at this; simpa using this⟩⟩
              case round =>
                obtain ⟨m, hm, rfl, HM⟩ := hrel
                by_cases hlt2 : m < g.length
                · have hdl := domRow_length g k
                  have hal := own_turned HK4.out.1.inn HM.out.1 (fun j hj hx => by simp only [Value.ownBlock, Option.some.injEq] at hj; omega)
                  have hse := own_turned HK4.out.2.1 HM.out.1 (fun j hj hx => by simp only [Value.ownBlock, Option.some.injEq] at hj; omega)
                  have hdq := (HM.out.1.block db (by have := (Array.getElem?_eq_some_iff.1 HK4.out.1.dblk).1; exact this) (fun e => by omega)).trans HK4.out.1.dblk
                  have hd4 : wr.cell? ⟨db, 4, none⟩ = some (.slice (some ⟨sb, 0, none⟩) g.length g.length) := cell_of_row _ _ 4 _ _ _ hdq
                  have hc2 := hal.cellAt m (by omega)
                  have hc3 := hse.cellAt m (by omega)
                  have hc4 := HM.out.2.cellAt m (by omega)
                  have hc5 := HM.out.2.frozenAt m
                  rw [List.getElem?_map, reachRow_get (by omega), Option.map_some] at hc2 hc3
                  rw [List.getElem?_append_right (by simp; omega)] at hc4
                  simp only [List.length_map, List.length_take, hdl, Nat.min_eq_left (Nat.le_of_lt hlt2), Nat.sub_self] at hc4
                  rw [List.getElem?_replicate, if_pos (by omega)] at hc4
                  have HX := Lib.hid (domRow_get (g := g) (a := k) hlt2)
                  unfold domB at HX
                  rw [HRA.out, Bool.true_and] at HX
                  have hst := fun v => HM.out.2.stored m (.bool v)
                  have HT := Lib.hid hst
                  clear hst hal hse hdq
                  generalize reachB g (-1) m = vb at hc2 HX
                  generalize reachB g k m = vs at hc3 HX
                  have HM1 := Lib.hid HM.out.1
                  have HS := Lib.hid (fun v (hv : (domRow g k)[m]? = some v) => (set_next_bool hv hdl) ▸ (HT.out v).1)
                  clear HM hdl
                  cases vb <;> cases vs <;> (
                    go_wp2
                    go_roundg (gk - 1)
                    case measure => omega
                    case rel => exact ⟨m + 1, by omega, by go_num, Lib.hid ⟨HM1.out.trans (turned_of_grown (HT.out _).2 (fun j hj => by cases hj; rfl)), HS.out _ HX.out⟩⟩)
                · obtain rfl : m = g.length := by omega
                  have hdl := domRow_length g k
                  have hrw := HM.out.2
                  rw [Nat.sub_self, List.replicate_zero, List.append_nil, List.take_of_length_le (by omega)] at hrw
                  have hbq := HK4.out.2.2.2.trans (HM.out.1.below HK4.out.2.2.2.size (fun j hj => by omega))
                  have HQ := Lib.hid (And.intro (HK.out.later hbq) hrw)
                  clear hrw hbq hdl HM
                  go_wp2_with fail
                  go_meet
                  exact ⟨_, rfl, HQ⟩
          case rest =>
            obtain ⟨rb, rfl, HROW⟩ := hcut
            have hdk := HROW.out.1
            have hdl := domRow_length g k
            have hd3 : wc.cell? ⟨db, 3, none⟩ = some (.slice oa k oc) := cell_of_row _ _ 3 _ _ _ hdk.dblk
            obtain ⟨_, vals, hvals, hv2⟩ := hdk.out
            have hba : Below wc.heap.size wc (wc.alloc (.cells #[.slice (some ⟨rb, 0, none⟩) g.length g.length] 124)) := (Below.refl _ _).alloc (Nat.le_refl _) _
            go_wp2_with (at_builtin; refine app_bools rfl (.tmp 63) (.tmp 65) rfl w.heap.size _ k vals rfl (hvals.alloc _) _ _ _ rfl (rowAt_one _ _ _) (by rintro ⟨⟩) rfl (by omega) (by have := hdk.below.size; simp; omega) ?_; intro a7 c7 w7 hown7 hg7; (have hsn := (hdk.later hba).snoc (domMat_get hlt) vals (hvals.alloc _) (fun i v bs h1 h3 => by obtain ⟨ra, rc, h5, h4⟩ := hv2 i v bs h1 h3; exact ⟨ra, rc, h5, h4.alloc _⟩) (ra := some ⟨rb, 0, none⟩) (rc := g.length) (by rw [hdl]; exact HROW.out.2.alloc _) hg7 (by rw [hdl]; exact hown7)); (have hd7 : w7.cell? ⟨db, 3, none⟩ = some (.slice oa k oc) := cell_of_row _ _ 3 _ _ _ hsn.1); (have hf7 := frozen_of_row w7 db 3 _ _ hsn.1))
            have HSN := Lib.hid hsn.2
            clear hsn hba hvals hv2 hdk
            go_roundg (gk - 1)
            case measure => omega
            case rel => exact ⟨k + 1, by omega, by go_num, a7, c7, HSN⟩
        · obtain rfl : k = g.length := by omega
          go_wp2
          go_ret
          have hd := HK.out
          refine ⟨hd.below, .inr ⟨hF, db, oa, oc, sb, rfl, hd.dblk, ?_, bools_of_own hd.inn⟩⟩
          have := hd.out.rd
          rwa [List.take_of_length_le (by simp [domMat])] at this

end Go.Proofs.Ytkhnhdgbbjppeaa
