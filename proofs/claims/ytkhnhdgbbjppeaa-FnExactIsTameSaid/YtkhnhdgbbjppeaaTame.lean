
/-
  IsTame, the reference's and the program's.
-/
import Derived.Test.YtkhnhdgbbjppeaaBacksSpec
import Derived.Test.YtkhnhdgbbjppeaaBacksImpl
import Derived.Test.YtkhnhdgbbjppeaaFunc
import Derived.Test.YtkhnhdgbbjppeaaDomsImpl
namespace Go.Proofs.Ytkhnhdgbbjppeaa
open Go.RowKit

noncomputable def tameB (g : List (List Int)) (e : List Int) : Bool := domP g (e.getD 1 0) (e.getD 0 0)
noncomputable def tameP (g : List (List Int)) : Bool := fits g && (backsP g).all (tameB g)

/-- A slice of two numbers. -/
theorem two_cells {w : World} {a : Option Addr} {l : List Int} (h : IntsRd w a l.length l) (h2 : l.length = 2) :
    ∃ u v b o, l = [u, v] ∧ a = some ⟨b, o, none⟩ ∧ w.cell? ⟨b, o, none⟩ = some (.int .i64 u) ∧ w.cell? ⟨b, o + 1, none⟩ = some (.int .i64 v) := by
  obtain ⟨u, v, rfl⟩ : ∃ u v, l = [u, v] := by
    match l, h2 with
    | [u, v], _ => exact ⟨u, v, rfl⟩
  obtain ⟨b, o, x, rfl, hx, hc⟩ := h.place (i := 0) (by simp)
  obtain ⟨b', o', y, hab, hy, hcy⟩ := h.place (i := 1) (by simp)
  cases hab
  simp at hx hy
  subst hx hy
  exact ⟨u, v, b, o, rfl, rfl, by rwa [Nat.add_zero] at hc, hcy⟩
theorem all_next {α : Type} {q : α → Bool} {xs : List α} {k : Nat} {x : α} (h : ∀ y ∈ xs.take k, q y = true) (hx : xs[k]? = some x) (hq : q x = true) : ∀ y ∈ xs.take (k + 1), q y = true := by
  rw [take_succ_of hx]
  intro y hy
  rcases List.mem_append.1 hy with h1 | h1
  · exact h y h1
  · rw [List.mem_singleton] at h1; subst h1; exact hq

set_option maxRecDepth 100000 in
set_option maxHeartbeats 2000000 in
theorem specIsTame_any (p r : Int) (ba : Option Addr) (bc : Nat) (g : List (List Int)) (w : World) (hg : Gr w ba g) :
    Calls Try.prog 43 #[.agg #[.int .i64 p, .int .i64 r, .slice ba g.length bc]] w fun e w' => e = .returned (.bool (tameP g)) ∧ Below w.heap.size w w' := by
  have hb0 := below_box w (.int .i64 p) (.int .i64 r) (.slice ba g.length bc)
  have HC := Lib.hid (heap_alloc_new w (.cells #[.int .i64 p, .int .i64 r, .slice ba g.length bc] 51))
  have hlen := hg.len
  go_enter Try.func43, Try.ntmps43
  go_wp2_with fail
  refine (specBackEdges_any p r ba bc g _ (hg.later hb0)).mono ?_
  rintro e w1 ⟨a1, c1, rs, rfl, hm1, hx1, hb1⟩
  have hsm := backsP_small hg.small
  have HT := Lib.hid (And.intro (show tameP g = (fits g && (backsP g).all (tameB g)) from rfl) (backsP_two g))
  have HM := Lib.hid (And.intro hm1.at.toMatRd (And.intro hx1 (And.intro (hb0.trans (hb1.mono hb0.size)) ((hb1.block w.heap.size (by simp)).trans HC.out))))
  clear hm1 hx1 hb1 hb0 HC
  generalize backsP g = R at HT HM hsm ⊢
  go_wp2_with fail
  go_loopg [4] R.length (fun F i wr => ∃ k : Nat, k + F = R.length ∧ i = .int .i64 k ∧ Hid ((∀ e ∈ R.take k, tameB g e = true) ∧ Below w1.heap.size w1 wr))
  case atStart => exact ⟨0, by omega, rfl, Lib.hid ⟨by simp, Below.refl _ _⟩⟩
  case round =>
    obtain ⟨k, hk, rfl, HK⟩ := hrel
    have hblk := (HK.out.2.block w.heap.size (Array.getElem?_eq_some_iff.1 HM.out.2.2.2).1).trans HM.out.2.2.2
    have k0 : wr.cell? ⟨w.heap.size, 0, none⟩ = some (.int .i64 p) := cell_of_row _ _ 0 _ _ _ hblk
    have k1 : wr.cell? ⟨w.heap.size, 1, none⟩ = some (.int .i64 r) := cell_of_row _ _ 1 _ _ _ hblk
    have k2 : wr.cell? ⟨w.heap.size, 2, none⟩ = some (.slice ba g.length bc) := cell_of_row _ _ 2 _ _ _ hblk
    have HW := Lib.hid (HM.out.2.2.1.trans (HK.out.2.mono HM.out.2.2.1.size))
    clear hblk
    by_cases hlt : k < R.length
    · obtain ⟨b1, o1, ai, ci, xs, rfl, hx, hc, hrd⟩ := (HM.out.1.later HK.out.2).place hlt
      have hxR : R[k]? = some xs := by rw [← HM.out.2.1, List.getElem?_map, hx]; rfl
      have h2 := HT.out.2 xs (List.mem_of_getElem? hxR)
      obtain ⟨u, v, b2, o2, rfl, rfl, hcu, hcv⟩ := two_cells hrd h2
      have hc : wr.cell? ⟨b1, o1 + k, none⟩ = some (.slice (some ⟨b2, o2, none⟩) 2 ci) := hc
      have HX := Lib.hid hxR
      have hlti : (k : Int) < (R.length : Int) := by omega
      clear hx hxR h2 hrd
      go_wp2_with fail
      go_still_tail 13, (by kernel_rfl)
      change wpList _ _ _ _ _ wr.drew
      have HD := Lib.hid (show Below wr.heap.size wr wr.drew from (Below.refl _ _).drew)
      clear k0 k1 k2 hc hcu hcv
      generalize wr.drew = wd at HD ⊢
      have HWD := Lib.hid (HW.out.trans (HD.out.mono HW.out.size))
      go_wp2_with fail
      refine (specDominates_any p r ba bc g v u wd (hg.later HWD.out)).mono ?_
      cases hd : domP g v u with
      | true =>
        rintro e w2 ⟨rfl, hb2⟩
        have HN := Lib.hid (And.intro (all_next HK.out.1 HX.out (show tameB g [u, v] = true from hd)) (HK.out.2.trans ((HD.out.trans (hb2.mono HD.out.size)).mono HK.out.2.size)))
        clear hb2 hd
        go_wp2
        go_roundg (gk - 1)
        case measure => omega
        case rel => exact ⟨k + 1, by omega, by go_num, HN⟩
      | false =>
        rintro e w2 ⟨rfl, hb2⟩
        have HF := Lib.hid (show tameP g = false by
          rw [HT.out.1, Bool.and_eq_false_iff]
          refine .inr (List.all_eq_false.2 ⟨_, List.mem_of_getElem? HX.out, ?_⟩)
          show ¬ domP g v u = true
          rw [hd]; simp)
        have HN := Lib.hid (HWD.out.trans (hb2.mono HWD.out.size))
        clear hb2 hd
        go_wp2
        go_ret
        exact ⟨ret_bool HF.out.symm, HN.out⟩
    · obtain rfl : k = R.length := by omega
      have HF := Lib.hid (show tameP g = fits g by
        rw [HT.out.1, List.all_eq_true.2 (fun x hx => HK.out.1 x (by rw [List.take_length]; exact hx)), Bool.and_true])
      go_wp2_with fail
      refine (l10Fits_any p r ba bc g _ (hg.later HW.out)).mono ?_
      rintro e w2 ⟨rfl, hb2⟩
      have HN := Lib.hid (HW.out.trans (hb2.mono HW.out.size))
      clear hb2
      go_wp2
      go_ret
      exact ⟨ret_bool HF.out.symm, HN.out⟩

set_option maxRecDepth 100000 in
theorem tame1_any (p r : Int) (ba : Option Addr) (bc : Nat) (g : List (List Int)) (hf : Fits g) (db : Nat) (oa : Option Addr) (oc sb : Nat) (a : Option Addr) (c : Nat) (l : List Int) (h2 : l.length = 2) (bd : Nat) (w : World) (hrd : IntsRd w a l.length l) (hD : DomsAt w p r ba bc g db oa oc sb) (hlen : g.length ≤ 1048576)
    (hcd : w.cell? ⟨bd, 0, none⟩ = some (.pointer (some ⟨db, 0, none⟩))) :
    Calls Try.prog 89 #[.slice a l.length c, .pointer (some ⟨bd, 0, none⟩)] w fun e w' => e = .returned (.bool (!tameB g l)) ∧ Below w.heap.size w w' := by
  obtain ⟨u, v, b2, o2, rfl, rfl, hcu, hcv⟩ := two_cells hrd h2
  show Calls _ _ #[.slice (some ⟨b2, o2, none⟩) 2 c, .pointer (some ⟨bd, 0, none⟩)] w _
  have HD := Lib.hid (show DomsAt w.drew p r ba bc g db oa oc sb from hD.later (Below.refl _ _).drew)
  have HB := Lib.hid (show Below w.heap.size w w.drew from (Below.refl _ _).drew)
  have HT := Lib.hid (show tameB g [u, v] = domP g v u from rfl)
  clear hrd h2 hD
  go_enter Try.func89, Try.ntmps89
  go_wp2_with fail
  go_still_tail 7, (by kernel_rfl)
  change wpList _ _ _ _ _ w.drew
  clear hcu hcv hcd
  generalize w.drew = wd at HD HB ⊢
  go_wp2_with fail
  refine (dominates_any p r ba bc g hf db oa oc sb v u wd HD.out hlen).mono ?_
  rintro e w2 ⟨rfl, hb2⟩
  have HN := Lib.hid (HB.out.trans (hb2.mono HB.out.size))
  clear hb2
  go_wp2
  go_ret
  exact ⟨ret_bool (by rw [HT.out]), HN.out⟩

theorem any_hds {R : List (List Int)} {rs : List Hd} (h : rs.map Hd.xs = R) (q : List Int → Bool) : rs.any (fun r => !q r.xs) = !R.all q := by
  subst h
  induction rs with
  | nil => rfl
  | cons x rs ih =>
    rw [List.any_cons, ih, List.map_cons, List.all_cons]
    cases q x.xs <;> rfl

set_option maxRecDepth 100000 in
set_option maxHeartbeats 2000000 in
theorem implIsTame_any (p r : Int) (ba : Option Addr) (bc : Nat) (g : List (List Int)) (w : World) (hg : Gr w ba g) :
    Calls Try.prog 44 #[.agg #[.int .i64 p, .int .i64 r, .slice ba g.length bc]] w fun e w' => e = .returned (.bool (tameP g)) ∧ Below w.heap.size w w' := by
  have hmf : ∀ (fn : Fn) (first cap : Array Value) (w : World), (Instr.makeFunc fn first cap).run Try.prog w = .ok (.func fn first cap) w := fun _ _ _ _ => rfl
  have hb0 := below_box w (.int .i64 p) (.int .i64 r) (.slice ba g.length bc)
  have HC := Lib.hid (heap_alloc_new w (.cells #[.int .i64 p, .int .i64 r, .slice ba g.length bc] 51))
  have hlen := hg.len
  go_enter Try.func44, Try.ntmps44
  go_wp2_with fail
  refine (domsOf_any g p r ba bc _ (hg.later hb0)).mono ?_
  rintro e w1 ⟨hb1, hcase⟩
  have hb01 := hb0.trans (hb1.mono hb0.size)
  have hC1 := (hb1.block w.heap.size (by simp)).trans HC.out
  rcases hcase with ⟨hf, rfl⟩ | ⟨hf, db, oa, oc, sb, rfl, hD⟩
  · have HF := Lib.hid (show tameP g = false by rw [tameP, hf]; rfl)
    have hst := run_store_new w1 w1.heap.size (.pointer none) (.pointer none) 90 rfl rfl
    have hb2 : Below w1.heap.size w1 (w1.alloc (.cells #[.pointer none] 90)) := (Below.refl _ _).alloc (Nat.le_refl _) _
    have hcd := rowAt_new w1 (.pointer none) 90
    have HB := Lib.hid (hb01.trans (hb2.mono hb01.size))
    clear hf hb1 hb2 hC1 hb01 hb0
    go_wp2
    go_ret
    exact ⟨ret_bool HF.out.symm, HB.out⟩
  · have hst := run_store_new w1 w1.heap.size (.pointer none) (.pointer (some ⟨db, 0, none⟩)) 90 rfl rfl
    have hb2 : Below w1.heap.size w1 (w1.alloc (.cells #[.pointer (some ⟨db, 0, none⟩)] 90)) := (Below.refl _ _).alloc (Nat.le_refl _) _
    have hcd := rowAt_new w1 (.pointer (some ⟨db, 0, none⟩)) 90
    have hC2 := (hb2.block w.heap.size (Array.getElem?_eq_some_iff.1 hC1).1).trans hC1
    have k0 : (w1.alloc (.cells #[.pointer (some ⟨db, 0, none⟩)] 90)).cell? ⟨w.heap.size, 0, none⟩ = some (.int .i64 p) := cell_of_row _ _ 0 _ _ _ hC2
    have k1 : (w1.alloc (.cells #[.pointer (some ⟨db, 0, none⟩)] 90)).cell? ⟨w.heap.size, 1, none⟩ = some (.int .i64 r) := cell_of_row _ _ 1 _ _ _ hC2
    have k2 : (w1.alloc (.cells #[.pointer (some ⟨db, 0, none⟩)] 90)).cell? ⟨w.heap.size, 2, none⟩ = some (.slice ba g.length bc) := cell_of_row _ _ 2 _ _ _ hC2
    have HB := Lib.hid (And.intro (hb01.trans (hb2.mono hb01.size)) (hD.later hb2))
    have HF := Lib.hid (And.intro hf (And.intro hg.small (fits_iff.2 hf)))
    obtain ⟨bd, hbd⟩ : ∃ bd, bd = w1.heap.size := ⟨_, rfl⟩
    clear hb1 hb2 hC1 hC2 hb01 hb0 hD hf
    go_wp2_with fail
    rw [← hbd] at hcd ⊢
    clear hst hbd
    generalize w1.alloc (.cells #[.pointer (some ⟨db, 0, none⟩)] 90) = wa at HB hcd k0 k1 k2 ⊢
    refine (implBackEdges_any p r ba bc g wa (hg.later HB.out.1)).mono ?_
    rintro e w2 ⟨a2, c2, rs, rfl, hm2, hx2, hb2⟩
    have hsm := backsP_small HF.out.2.1
    have HT := Lib.hid (And.intro (show tameP g = (fits g && (backsP g).all (tameB g)) from rfl) (backsP_two g))
    have HM := Lib.hid (And.intro hm2.at.toMatRd (And.intro hx2 (And.intro (HB.out.1.trans (hb2.mono HB.out.1.size)) (And.intro (HB.out.2.later hb2) (cell_later hb2 hcd)))))
    clear hm2 hx2 hb2 hcd k0 k1 k2
    generalize backsP g = R at HT HM hsm ⊢
    have HFn := Lib.hid (⟨fun _ _ => rfl, fun x hx W hW => by
      have hxs : x.xs ∈ R := by rw [← HM.out.2.1]; exact List.mem_map_of_mem hx
      exact tame1_any p r ba bc g HF.out.1 db oa oc sb x.a x.cap x.xs (HT.out.2 _ hxs) bd W ((HM.out.1.rows x hx).later hW) (HM.out.2.2.2.1.later hW) hlen (cell_later hW HM.out.2.2.2.2)⟩ : BoolFn w2 89 #[.pointer (some ⟨bd, 0, none⟩)] rs (fun x => !tameB g x.xs))
    go_wp2_with fail
    refine (containsFunc_any _ _ _ a2 _ c2 rs w2 HM.out.1 HFn.out (by omega)).mono ?_
    rw [any_hds HM.out.2.1]
    rintro e w3 ⟨rfl, hb3⟩
    have HN := Lib.hid (HM.out.2.2.1.trans (hb3.mono HM.out.2.2.1.size))
    have HV := Lib.hid (show tameP g = !(!R.all (tameB g)) by rw [HT.out.1, HF.out.2.2, Bool.true_and, Bool.not_not])
    clear hb3
    generalize R.all (tameB g) = v at HV ⊢
    go_wp2
    go_ret
    exact ⟨ret_bool (by rw [HV.out]; cases v <;> rfl), HN.out⟩

end Go.Proofs.Ytkhnhdgbbjppeaa
