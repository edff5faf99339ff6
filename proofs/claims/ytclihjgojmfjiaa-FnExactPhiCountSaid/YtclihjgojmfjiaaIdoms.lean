/-
  The nearest dominators: the reference's list and the program's.
-/
import Derived.Test.YtclihjgojmfjiaaMeet
namespace Go.Proofs.Ytclihjgojmfjiaa
open Go.RowKit

noncomputable def idomB (g : List (List Int)) (b a : Nat) : Bool := (a != b) && domB g a b
noncomputable def idomP (g : List (List Int)) (b : Nat) : Int := bestOf g (idomB g b) g.length
noncomputable def idoms (g : List (List Int)) : List Int := (List.range g.length).map (idomP g)
noncomputable def idomsP (g : List (List Int)) : List Int := if fits g then idoms g else []
theorem idoms_length (g : List (List Int)) : (idoms g).length = g.length := by simp [idoms]
theorem idoms_get {g : List (List Int)} {b : Nat} (h : b < g.length) : (idoms g)[b]? = some (idomP g b) := by simp [idoms, h]
theorem idomsP_le {w : World} {ba : Option Addr} {g : List (List Int)} (h : Gr w ba g) : (idomsP g).length ≤ 1048576 := by
  have := h.len
  unfold idomsP
  split
  · rw [idoms_length]; exact this
  · simp
theorem idomP_of {g : List (List Int)} {b : Nat} : bestOf g (fun k => reachB g (-1) k && idomB g b k) g.length = idomP g b := bestOf_congr (fun j _ => by
  unfold idomB
  cases h : domB g j b with
  | false => simp
  | true => rw [(domB_has h).1]; simp)
theorem idomP_unreached {g : List (List Int)} {b : Nat} (h : reachB g (-1) b = false) : idomP g b = -1 := bestOf_none (fun j _ => by simp [idomB, domB, h])
theorem ints_push {xs : List Int} {k : Nat} {x : Int} (h : xs[k]? = some x) : ((xs.take (k + 1)).map (Value.int .i64)) = (xs.take k).map (Value.int .i64) ++ [x].map (Value.int .i64) := by
  rw [take_succ_of h, List.map_append]

/-- One step of the search, as the loops take it. -/
theorem bestOf_step (g : List (List Int)) (P : Nat → Bool) (j : Nat) : bestOf g P (j + 1) = if P j && (decide (bestOf g P j < 0) || domB g (bestOf g P j).toNat j) then (j : Int) else bestOf g P j := rfl

set_option maxRecDepth 100000 in
set_option maxHeartbeats 4000000 in
theorem l11Idoms_any (g : List (List Int)) (a : Option Addr) (cap : Nat) (w : World) (hM : BMat w a g.length (domMat g)) (hlen : g.length ≤ 1048576) :
    Calls Try.prog 67 #[.slice a g.length cap] w fun e w' => RetInts w (idoms g) g.length e w' := by
  have he := Lib.hid (own_empty w w.heap.size 3 1 (Nat.le_refl _))
  have hb0 : Below w.heap.size w (w.alloc (.cells #[] 3)) := (Below.refl _ _).alloc (Nat.le_refl _) _
  have HM := Lib.hid hM
  clear hM
  go_enter Try.func67, Try.ntmps67
  go_wp2
  go_loopg [3, 4] g.length (fun F o i wr => ∃ k : Nat, k + F = g.length ∧ i = .int .i64 k ∧ ∃ oa oc, o = .slice oa k oc ∧ Hid (wr.ownsRow w.heap.size 3 1 (.slice oa k oc) k (((idoms g).take k).map (Value.int .i64)) ∧ Below w.heap.size w wr))
  case atStart => exact ⟨0, by omega, rfl, _, _, rfl, Lib.hid ⟨by simpa using he.out, hb0⟩⟩
  case round =>
    obtain ⟨k, hk, rfl, oa, oc, rfl, HK⟩ := hrel
    clear hb0 he
    by_cases hlt : k < g.length
    · go_wp2
      have HMr := Lib.hid (HM.out.later bRowR_lasts HK.out.2)
      go_loopg [5, 6] g.length (fun F c i wq => ∃ j : Nat, j + F = g.length ∧ i = .int .i64 j ∧ c = .int .i64 (bestOf g (idomB g k) j) ∧ wq = wr)
      case atStart => exact ⟨0, by omega, rfl, rfl, rfl⟩
      case round =>
        obtain ⟨j, hj, rfl, rfl, rfl⟩ := hrel
        by_cases hlt2 : j < g.length
        · obtain ⟨q1, o1, rb, ro, rc, rfl, c1, c2⟩ := BMat.cell HMr.out hlt2 hlt
          have HS := Lib.hid (bestOf_step g (idomB g k) j)
          have HR := Lib.hid (bestOf_range g (idomB g k) j)
          generalize bestOf g (idomB g k) j = ob at HS HR
          by_cases hjk : j = k
          · have hne : ((j : Int) != (k : Int)) = false := by simp [hjk]
            have hP : idomB g k j = false := by simp [idomB, hjk]
            rw [hP] at HS
            have HJ := Lib.hid hjk
            clear hP hjk
            go_wp2
            go_roundg (gk - 1)
            case measure => omega
            case rel => exact ⟨j + 1, by omega, by go_num, int_val (by have h := HS.out; simpa using h.symm), rfl⟩
          · have hne : ((j : Int) != (k : Int)) = true := by simp; omega
            have hP : idomB g k j = domB g j k := by simp [idomB, hjk]
            rw [hP] at HS
            clear hP
            rcases HR.out with h1 | ⟨m, hm, _, h1⟩
            · subst h1
              clear HR
              generalize domB g j k = va at c2 HS
              cases va <;> (
                go_wp2
                go_roundg (gk - 1)
                case measure => omega
                case rel => exact ⟨j + 1, by omega, by go_num, int_val (by have h := HS.out; simpa using h.symm), rfl⟩)
            · subst h1
              clear HR
              have hmn : m < g.length := by omega
              have hdec : decide ((m : Int) < 0) = false := by simp
              obtain ⟨q2, o2, rb2, ro2, rc2, hq, e1, e2⟩ := BMat.cell HMr.out hmn hlt2
              cases hq
              have hS := HS.out
              rw [hdec, Int.toNat_natCast] at hS
              have HS2 := Lib.hid hS
              clear hS HS
              generalize domB g j k = va at c2 HS2
              generalize domB g m j = vd at e2 HS2
              cases va <;> cases vd <;> (
                go_wp2
                go_roundg (gk - 1)
                case measure => omega
                case rel => exact ⟨j + 1, by omega, by go_num, int_val (by have h := HS2.out; simpa using h.symm), rfl⟩)
        · obtain rfl : j = g.length := by omega
          have hlw := HK.out.1
          have hszw := HK.out.2.size
          have HP := Lib.hid (show bestOf g (idomB g k) g.length = idomP g k from rfl)
          generalize bestOf g (idomB g k) g.length = v at HP ⊢
          go_wp2_with (at_builtin; refine app_ints rfl (.tmp 46) (.tmp 48) rfl w.heap.size _ k _ rfl (hlw.alloc _) _ 1 _ [v] rfl rfl (rowAt_one _ _ _) (by rintro ⟨⟩) (by omega) (by simp; omega) ?_; intro a5 c5 w5 hown5 hg5 hlies5)
          have hb5 : Below w.heap.size w w5 := (HK.out.2.alloc hszw _).grown hg5 (by simp; omega) (fun k hk => (hlw.lt k hk).1)
          have HN := Lib.hid (And.intro hown5 hb5)
          clear hown5 hg5 hlies5 hb5 hlw
          go_roundg (g.length - (k + 1))
          case measure => omega
          case rel => exact ⟨k + 1, by omega, by go_num, a5, c5, rfl, Lib.hid ⟨by rw [ints_push (idoms_get hlt), ← HP.out]; exact HN.out.1, HN.out.2⟩⟩
    · obtain rfl : k = g.length := by omega
      go_wp2
      go_ret
      have h1 := HK.out.1
      rw [List.take_of_length_le (by rw [idoms_length]; omega)] at h1
      exact ⟨_, _, rfl, h1, HK.out.2⟩

set_option maxRecDepth 100000 in
theorem specIdomsOf_any (p r : Int) (ba : Option Addr) (bc : Nat) (g : List (List Int)) (w : World) (hg : Gr w ba g) :
    Calls Try.prog 30 #[.agg #[.int .i64 p, .int .i64 r, .slice ba g.length bc]] w fun e w' => RetInts w (idomsP g) (idomsP g).length e w' := by
  have hb0 := below_box w (.int .i64 p) (.int .i64 r) (.slice ba g.length bc)
  have HC := Lib.hid (heap_alloc_new w (.cells #[.int .i64 p, .int .i64 r, .slice ba g.length bc] 29))
  have hlen := hg.len
  go_enter Try.func30, Try.ntmps30
  go_wp2_with fail
  refine (l10Fits_any p r ba bc g _ (hg.later hb0)).mono ?_
  rintro e w1 ⟨rfl, hb1⟩
  have hb01 := hb0.trans (hb1.mono hb0.size)
  have hC1 := (hb1.block w.heap.size (by simp)).trans HC.out
  have hk0 : w1.cell? ⟨w.heap.size, 0, none⟩ = some (.int .i64 p) := cell_of_row _ _ 0 _ _ _ hC1
  have hk1 : w1.cell? ⟨w.heap.size, 1, none⟩ = some (.int .i64 r) := cell_of_row _ _ 1 _ _ _ hC1
  have hk2 : w1.cell? ⟨w.heap.size, 2, none⟩ = some (.slice ba g.length bc) := cell_of_row _ _ 2 _ _ _ hC1
  clear hC1
  cases hf : fits g with
  | false =>
    have HP := Lib.hid (show idomsP g = [] by rw [idomsP, hf]; rfl)
    clear hf
    have hs := hb01.size
    go_wp2
    go_ret
    rw [HP.out]
    exact ⟨_, _, rfl, own_empty w1 w.heap.size 3 1 hs, hb01.alloc hs _⟩
  | true =>
    have HP := Lib.hid (show idomsP g = idoms g by rw [idomsP, hf]; rfl)
    have hF := fits_iff.1 hf
    clear hf
    go_wp2_with fail
    refine (l11Doms_any g hF p r ba bc w1 (hg.later hb01)).mono ?_
    rintro e w2 ⟨oa, oc, rfl, hM, hb2⟩
    have hb02 := hb01.trans (hb2.mono hb01.size)
    have HM := Lib.hid hM.rd
    clear hM
    go_wp2_with fail
    refine (l11Idoms_any g oa oc w2 HM.out hlen).mono ?_
    rintro e w3 ⟨a3, c3, rfl, hown3, hb3⟩
    have HO := Lib.hid (And.intro hown3 hb3)
    clear hown3 hb3
    go_wp2
    go_ret
    rw [HP.out, idoms_length]
    exact ⟨_, _, rfl, own_lower HO.out.1 (fun k hk => by have := (HO.out.1.lt k hk).1; have := hb02.size; omega), hb02.trans (HO.out.2.mono hb02.size)⟩

/-! ### the program -/
set_option maxRecDepth 100000 in
set_option maxHeartbeats 1000000 in
theorem idom1_any (p r : Int) (ba : Option Addr) (bc : Nat) (g : List (List Int)) (db : Nat) (oa : Option Addr) (oc sb : Nat) (x b bd b1 : Nat) (hx : x < g.length) (hb : b < g.length) (w : World) (hD : DomsAt w p r ba bc g db oa oc sb)
    (hcd : w.cell? ⟨bd, 0, none⟩ = some (.pointer (some ⟨db, 0, none⟩))) (hcb : w.cell? ⟨b1, 0, none⟩ = some (.int .i64 (b : Int))) :
    Calls Try.prog 102 #[.int .i64 (x : Int), .pointer (some ⟨b1, 0, none⟩), .pointer (some ⟨bd, 0, none⟩)] w fun e w' => e = .returned (.bool (idomB g b x)) ∧ Below w.heap.size w w' := by
  have hd3 : w.cell? ⟨db, 3, none⟩ = some (.slice oa g.length oc) := cell_of_row _ _ 3 _ _ _ hD.blk
  obtain ⟨q1, o1, rb, ro, rc, rfl, c1, c2⟩ := BMat.cell hD.over hx hb
  clear hD
  by_cases hxb : x = b
  · have hne : ((x : Int) != (b : Int)) = false := by simp [hxb]
    have HP := Lib.hid (show idomB g b x = false by simp [idomB, hxb])
    clear hxb
    go_enter Try.func102, Try.ntmps102
    go_wp2_with fail
    go_quiet (fail)
    go_wp2
    go_ret
    exact ⟨ret_bool HP.out.symm, below_drewN (Below.refl _ _) _⟩
  · have hne : ((x : Int) != (b : Int)) = true := by simp; omega
    have HP := Lib.hid (show idomB g b x = domB g x b by simp [idomB, hxb])
    clear hxb
    go_enter Try.func102, Try.ntmps102
    go_wp2_with fail
    go_quiet (fail)
    go_wp2
    go_ret
    exact ⟨ret_bool HP.out.symm, below_drewN (Below.refl _ _) _⟩

set_option maxRecDepth 100000 in
theorem idom_any (p r : Int) (ba : Option Addr) (bc : Nat) (g : List (List Int)) (db : Nat) (oa : Option Addr) (oc sb : Nat) (b : Nat) (hb : b < g.length) (w : World) (hD : DomsAt w p r ba bc g db oa oc sb) (hlen : g.length ≤ 1048576) :
    Calls Try.prog 68 #[.pointer (some ⟨db, 0, none⟩), .int .i64 (b : Int)] w fun e w' => e = .returned (.int .i64 (idomP g b)) ∧ Below w.heap.size w w' := by
  have hmf : ∀ (fn : Fn) (first cap : Array Value) (w : World), (Instr.makeFunc fn first cap).run Try.prog w = .ok (.func fn first cap) w := fun _ _ _ _ => rfl
  have H2 := two_blocks w (.cells #[.pointer (some ⟨db, 0, none⟩)] 61) (.cells #[.int .i64 (b : Int)] 3)
  have HH := Lib.hid H2
  clear H2
  go_enter Try.func68, Try.ntmps68
  go_wp2_with fail
  generalize (w.alloc (.cells #[.pointer (some ⟨db, 0, none⟩)] 61)).alloc (.cells #[.int .i64 (b : Int)] 3) = W0 at HH ⊢
  have hDa := hD.later HH.out.2.2.2
  have hfn : NearFn W0 102 #[.pointer (some ⟨w.heap.size + 1, 0, none⟩), .pointer (some ⟨w.heap.size, 0, none⟩)] g.length (idomB g b) :=
    ⟨fun _ _ => rfl, fun x hx W hW => idom1_any p r ba bc g db oa oc sb x b _ _ hx hb W (hDa.later hW) (cell_later hW (cell_of_row _ _ 0 _ _ _ HH.out.1)) (cell_later hW (cell_of_row _ _ 0 _ _ _ HH.out.2.1))⟩
  refine (nearest_any p r ba bc g db oa oc sb 102 _ (idomB g b) W0 hDa hfn hlen).mono ?_
  rw [idomP_of]
  rintro e w4 ⟨rfl, hb4⟩
  go_wp2
  go_ret
  exact ⟨rfl, HH.out.2.2.2.trans (hb4.mono HH.out.2.2.2.size)⟩

set_option maxRecDepth 100000 in
set_option maxHeartbeats 1000000 in
theorem implIdomsOf_any (p r : Int) (ba : Option Addr) (bc : Nat) (g : List (List Int)) (w : World) (hg : Gr w ba g) :
    Calls Try.prog 31 #[.agg #[.int .i64 p, .int .i64 r, .slice ba g.length bc]] w fun e w' => RetInts w (idomsP g) (idomsP g).length e w' := by
  obtain ⟨i0, hi, hz0, hz1, hz2⟩ := info_parts info_int
  have HI := Lib.hid (And.intro hi (And.intro hz0 (And.intro hz1 hz2)))
  clear hi hz0 hz1 hz2
  have hb0 := below_box w (.int .i64 p) (.int .i64 r) (.slice ba g.length bc)
  have HC := Lib.hid (heap_alloc_new w (.cells #[.int .i64 p, .int .i64 r, .slice ba g.length bc] 29))
  have hlen := hg.len
  go_enter Try.func31, Try.ntmps31
  go_wp2_with fail
  refine (domsOf_any g p r ba bc _ (hg.later hb0)).mono ?_
  rintro e w1 ⟨hb1, hcase⟩
  have hb01 := hb0.trans (hb1.mono hb0.size)
  have hC1 := (hb1.block w.heap.size (by simp)).trans HC.out
  have hk2 : w1.cell? ⟨w.heap.size, 2, none⟩ = some (.slice ba g.length bc) := cell_of_row _ _ 2 _ _ _ hC1
  clear hC1 hb1
  rcases hcase with ⟨hf, rfl⟩ | ⟨hf, db, oa, oc, sb, rfl, hD⟩
  · have HP := Lib.hid (show idomsP g = [] by rw [idomsP, hf]; rfl)
    clear hf
    go_wp2
    go_ret
    rw [HP.out]
    exact ⟨none, 0, rfl, World.ownsRow_nil _ _ _ _, hb01⟩
  · have HP := Lib.hid (show idomsP g = idoms g by rw [idomsP, fits_iff.2 hf]; rfl)
    have HD := Lib.hid hD
    clear hD
    go_wp2_with (at_make; refine wpList_make_full _ rfl _ _ 36 rfl w.heap.size 3 i0 (.int .i64 0) 1 und_ints HI.out.1 HI.out.2.1 HI.out.2.2.1 _ _ _ _ g.length rfl rfl rfl rfl (by rw [HI.out.2.2.2]; omega) (by unfold maxLen; omega) (by have := hb01.size; omega) ?_; intro w2 hown hg2)
    have hb2 : Below w1.heap.size w1 w2 := (Below.refl _ _).grown hg2 (Nat.le_refl _) (by simp)
    rw [Nat.mul_one, show (Value.int .i64 0).cells = #[Value.int .i64 0] from rfl, toList_madeCells_one] at hown
    have HO := Lib.hid (And.intro hown hb2)
    have hrl := (hown.lt w1.heap.size rfl).2
    have hdn : db ≠ w1.heap.size := by have := (Array.getElem?_eq_some_iff.1 HD.out.blk).1; omega
    have hsn : sb ≠ w1.heap.size := by
      obtain ⟨b1, o1, v, hab, _, hc⟩ := HD.out.inn.place hf.pos
      cases hab
      have h := World.block_lt_of_cell? _ _ hc
      simp only at h
      omega
    clear hown hg2 hb2 hk2
    go_wp2
    go_loopg [16] g.length (fun F i wr => ∃ k : Nat, k + F = g.length ∧ i = .int .i64 k ∧ Hid (wr.ownsRow w.heap.size 3 1 (.slice (some ⟨w1.heap.size, 0, none⟩) g.length g.length) g.length (((idoms g).take k).map (Value.int .i64) ++ List.replicate (g.length - k) (Value.int .i64 0)) ∧ Below w1.heap.size w1 wr))
    case atStart => exact ⟨0, by omega, rfl, Lib.hid ⟨by simpa using HO.out.1, HO.out.2⟩⟩
    case round =>
      obtain ⟨k, hk, rfl, HK⟩ := hrel
      by_cases hlt : k < g.length
      · have hDr : DomsAt wr p r ba bc g db oa oc sb := HD.out.later HK.out.2
        have hd4 : wr.cell? ⟨db, 4, none⟩ = some (.slice (some ⟨sb, 0, none⟩) g.length g.length) := cell_of_row _ _ 4 _ _ _ hDr.blk
        obtain ⟨b1, o1, vi, hab, hvi, hci⟩ := hDr.inn.place hlt
        rw [reachRow_get hlt] at hvi
        cases hvi
        cases hab
        rw [Nat.zero_add] at hci
        have hil := idoms_length g
        have hcr : wr.cell? ⟨w1.heap.size, k, none⟩ = some (.int .i64 0) := by
          rw [HK.out.1.cellAt k (by omega), List.getElem?_append_right (by simp; omega)]
          simp only [List.length_map, List.length_take, hil, Nat.min_eq_left (Nat.le_of_lt hlt), Nat.sub_self]
          rw [List.getElem?_replicate, if_pos (by omega)]
        have hfr := HK.out.1.frozenAt k
        have hst := (HK.out.1.stored k (.int .i64 (-1))).1
        have hbs : Below w1.heap.size w1 (wr.setCell ⟨w1.heap.size, k, none⟩ (.int .i64 (-1))) := HK.out.2.setCell (Nat.le_refl _) _
        have hget := idoms_get (g := g) hlt
        have HST := Lib.hid (And.intro hst (And.intro hbs (And.intro hget hil)))
        clear hDr hst hbs hget hil
        cases hra : reachB g (-1) k with
        | false =>
          rw [hra] at hci
          have hu := idomP_unreached hra
          have HN : Hid ((wr.setCell ⟨w1.heap.size, k, none⟩ (.int .i64 (-1))).ownsRow w.heap.size 3 1 (.slice (some ⟨w1.heap.size, 0, none⟩) g.length g.length) g.length (((idoms g).take (k + 1)).map (Value.int .i64) ++ List.replicate (g.length - (k + 1)) (Value.int .i64 0))) := by
            refine Lib.hid ?_
            have h1 := HST.out.1
            rw [set_next (x := -1) (by rw [HST.out.2.2.1, hu]) HST.out.2.2.2] at h1
            exact h1
          clear hra hu
          go_wp2
          go_roundg (gk - 1)
          case measure => omega
          case rel => exact ⟨k + 1, by omega, by go_num, Lib.hid ⟨HN.out, HST.out.2.1⟩⟩
        | true =>
          rw [hra] at hci
          clear hra
          have hDs := HD.out.later HST.out.2.1
          go_wp2_with fail
          refine (idom_any p r ba bc g db oa oc sb k hlt _ hDs hlen).mono ?_
          rintro e w4 ⟨rfl, hb4⟩
          have hrow4 := ownsRow_below HST.out.1 hb4
          have hb14 : Below w1.heap.size w1 w4 := HST.out.2.1.trans (hb4.mono HST.out.2.1.size)
          have hc4 : ∃ u, w4.cell? ⟨w1.heap.size, k, none⟩ = some u := by
            rw [hrow4.cellAt k (by omega)]
            exact ⟨_, List.getElem?_eq_getElem (by have := hrow4.1; omega)⟩
          obtain ⟨u, hc4⟩ := hc4
          have hf4 := hrow4.frozenAt k
          have HN : Hid ((w4.setCell ⟨w1.heap.size, k, none⟩ (.int .i64 (idomP g k))).ownsRow w.heap.size 3 1 (.slice (some ⟨w1.heap.size, 0, none⟩) g.length g.length) g.length (((idoms g).take (k + 1)).map (Value.int .i64) ++ List.replicate (g.length - (k + 1)) (Value.int .i64 0)) ∧ Below w1.heap.size w1 (w4.setCell ⟨w1.heap.size, k, none⟩ (.int .i64 (idomP g k)))) := by
            refine Lib.hid ⟨?_, hb14.setCell (Nat.le_refl _) _⟩
            have h1 := (hrow4.stored k (.int .i64 (idomP g k))).1
            rw [List.set_set, set_next HST.out.2.2.1 HST.out.2.2.2] at h1
            exact h1
          clear hrow4 hb4 hb14 hDs
          go_wp2
          go_roundg (gk - 1)
          case measure => omega
          case rel => exact ⟨k + 1, by omega, by go_num, HN⟩
      · obtain rfl : k = g.length := by omega
        go_wp2
        go_ret
        have h1 := HK.out.1
        have hil := idoms_length g
        rw [Nat.sub_self, List.replicate_zero, List.append_nil, List.take_of_length_le (by omega)] at h1
        rw [HP.out, hil]
        exact ⟨_, _, rfl, h1, hb01.trans (HK.out.2.mono hb01.size)⟩

end Go.Proofs.Ytclihjgojmfjiaa
