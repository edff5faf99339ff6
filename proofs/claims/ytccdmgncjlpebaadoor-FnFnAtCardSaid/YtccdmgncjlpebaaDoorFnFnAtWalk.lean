/-
  How many different numbers of a list are below 0, or not: the walks of the reference's l21Kinds (a sorted list without doubles) and of the program's 'different' (a map), and that both count the same.
-/
import Derived.Test.YtccdmgncjlpebaaDoorLaw
import Derived.Maps.OwnSet
import Derived.Maps.Views
import Derived.Test.YtccdmgncjlpebaaDoorFa
import Derived.Test.YtccdmgncjlpebaaDoorFx
import Derived.Test.YtccdmgncjlpebaaDoorFy
import Derived.Test.YtccdmgncjlpebaaDoorVk

namespace Go.Proofs.YtccdmgncjlpebaaDoor
open Go.RowKit Go.Maps

/-! ### the plain law -/
/-! ### the walks -/
end Go.Proofs.YtccdmgncjlpebaaDoor

/-
  The reference draws a short list of small numbers (l21Numbers); wwHas looks a number up in a list; the walk of the law FnColoursUsed.
-/
namespace Go.Proofs.YtccdmgncjlpebaaDoor
open Go.RowKit

/-! ### FnColoursUsed -/
theorem bytes_of_row {w : World} {a : Option Addr} {len cap : Nat} {zs : List Int} (h : IsRow .u8 w a len cap zs) : BytesRd w a len (zs.take len) := by
  obtain ⟨h1, h2, h3⟩ := rowAt_of_row h
  refine ⟨h2, h1, fun x hx => ?_⟩
  have := h3 x hx
  simp [Lit.wf, IntKind.min, IntKind.max, IntKind.signed, IntKind.bits] at this
  exact ⟨by omega, by omega⟩
theorem cap_of_row {k : IntKind} {w : World} {a : Option Addr} {len cap : Nat} {zs : List Int} (h : IsRow k w a len cap zs) : len ≤ cap := by
  rcases h with ⟨_, rfl, rfl, _⟩ | ⟨_, _, h, _⟩
  · exact Nat.le_refl _
  · exact h

end Go.Proofs.YtccdmgncjlpebaaDoor

/-
  The walk of the law FnFnAt.
-/
namespace Go.Proofs.YtccdmgncjlpebaaDoor
open Go.RowKit
set_option linter.unusedVariables false

set_option maxRecDepth 100000 in
set_option maxHeartbeats 8000000 in
theorem fnFnAt_walk (a : Option Addr) (len cap : Nat) (zs : List Int) (b2 : Option Addr) (len2 cap2 : Nat) (ys : List Int) (w : World) (hO : OpsAt w) (hK : KeysAt w) (hrow : IsRow .u8 w a len cap zs) (hrow2 : IsRow .u8 w b2 len2 cap2 ys) :
    Calls Tryd.prog 3 #[.slice a len cap, .slice b2 len2 cap2] w fun e w' => e = .returned (.bool true) ∧ Below w.heap.size w w' := by
  have hin := bytes_of_row hrow
  have hcap := cap_of_row hrow
  have hin2 := bytes_of_row hrow2
  have hcap2 := cap_of_row hrow2
  clear hrow hrow2
  by_cases hbig : 1048576 < len
  · go_enter Tryd.func3, Tryd.ntmps3
    go_wp2
    go_ret
    exact ⟨rfl, Below.refl _ _⟩
  by_cases hbig2 : 1048576 < len2
  · go_enter Tryd.func3, Tryd.ntmps3
    go_wp2
    go_ret
    exact ⟨rfl, Below.refl _ _⟩
  have HIN2 := Lib.hid (And.intro hin2 hcap2)
  have HOK := Lib.hid (And.intro hO hK)
  clear hin2 hcap2
  go_enter Tryd.func3, Tryd.ntmps3
  go_wp2_with fail
  refine (drawFnAt_any w a len cap _ hin hcap).mono ?_
  rintro e w1 ⟨pa, pc, ps, nm, rfl, hl, hx, hb1⟩
  have hba : Below w1.heap.size w1 (w1.alloc (.cells #[.slice pa ps.length pc] 25)) := (Below.refl _ _).alloc (Nat.le_refl _) _
  have HW := Lib.hid (show Below w.heap.size w (w1.alloc (.cells #[.slice pa ps.length pc] 25)) ∧ OpsAt (w1.alloc (.cells #[.slice pa ps.length pc] 25)) ∧ KeysAt (w1.alloc (.cells #[.slice pa ps.length pc] 25)) ∧ ListK 3 (FnP 20) (fun _ => True) (w1.alloc (.cells #[.slice pa ps.length pc] 25)) pa ps ∧ ps.length ≤ 4 from
    ⟨hb1.trans (hba.mono hb1.size), (hO.later hb1).later hba, (hK.later hb1).later hba, (hx.below (fnP_stays 20) hba).mono (fnP_stays 20) (fun _ _ _ => trivial), hl⟩)
  have p0 := cell_of_row _ _ 0 _ _ _ (heap_alloc_new w1 (.cells #[.slice pa ps.length pc] 25))
  simp only [List.getElem?_toArray, List.getElem?_cons_zero] at p0
  clear hO hK hin hcap hbig hbig2 hl hx hb1 hba
  go_upto_region 4 with fail
  obtain ⟨tb, htb⟩ : ∃ n, n = w1.heap.size := ⟨_, rfl⟩
  generalize w1.alloc (.cells #[.slice pa ps.length pc] 25) = w2 at HW p0 ⊢
  rw [← htb] at p0 ⊢
  clear htb
  have HC0 := Lib.hid p0
  obtain ⟨R, hR⟩ : ∃ R, R = idxR (sameF nm) 0 ps := ⟨_, rfl⟩
  have hLaw := idxR_law (sameF nm) ps
  rw [← hR] at hLaw
  have HRL := Lib.hid hLaw
  obtain ⟨P, hP⟩ : ∃ P, P = bentPF ((ys.take len2).take 2000) 0 := ⟨_, rfl⟩
  have HIC := Lib.hid (show ∀ W, Below w2.heap.size w2 W → Calls Tryd.prog 5 #[.agg #[.slice pa ps.length pc], .string nm] W fun e w' => e = .returned (.int .i64 R) ∧ Hid (Below w2.heap.size w2 w') from fun W hW => by
    rw [hR]
    exact (fnAtI_any 20 (fun _ => True) pa pc ps nm W (HW.out.2.2.2.1.below (fnP_stays 20) hW) (by have := HW.out.2.2.2.2; omega)).mono fun e w' h => ⟨h.1, Lib.hid (hW.trans (h.2.mono hW.size))⟩)
  have HSC := Lib.hid (show ∀ W, Below w2.heap.size w2 W → Calls Tryd.prog 6 #[.agg #[.slice pa ps.length pc], .string nm] W fun e w' => e = .returned (.int .i64 R) ∧ Hid (Below w2.heap.size w2 w') from fun W hW => by
    rw [hR]
    exact (fnAtS_any 20 (fun _ => True) pa pc ps nm W (HW.out.2.2.2.1.below (fnP_stays 20) hW) (by have := HW.out.2.2.2.2; omega)).mono fun e w' h => ⟨h.1, Lib.hid (hW.trans (h.2.mono hW.size))⟩)
  have HDR := Lib.hid (show ∀ W, Below w.heap.size w W → Calls Tryd.prog 8 #[.slice b2 len2 cap2] W fun e w' => ∃ (pa : Option Addr) (pc : Nat), e = .returned (.agg (List.toArray [.slice pa P.length pc])) ∧ Hid (P.length ≤ 4 ∧ ListK 3 (FnP 20) (fun _ => True) w' pa P ∧ Below w.heap.size w w') from fun W hW => by
    rw [hP]
    refine (drawProgramValid_any W b2 len2 cap2 _ (HIN2.out.1.later hW) HIN2.out.2).mono ?_
    rintro e w' ⟨qa, qc, rfl, h1, h2, h3⟩
    exact ⟨qa, qc, rfl, Lib.hid ⟨h1, h2.mono (fnP_stays 20) (fun _ _ _ => trivial), hW.trans (h3.mono hW.size)⟩⟩)
  have HPV := Lib.hid (show ∀ W (qa : Option Addr) (qc : Nat), P.length ≤ 4 ∧ ListK 3 (FnP 20) (fun _ => True) W qa P ∧ Below w.heap.size w W → OpsAt W → KeysAt W → Calls Tryd.prog 7 #[.agg (List.toArray [.slice qa P.length qc])] W fun e w' => e = .returned (.bool (progB P)) ∧ Hid (Below w.heap.size w w') from fun W qa qc hW hO hK =>
    (progValidI_any 20 (fun _ => True) qa qc P W hO hK hW.2.1 (by have := hW.1; omega)).mono fun e w' h => ⟨h.1, Lib.hid (hW.2.2.trans (h.2.mono hW.2.2.size))⟩)
  have HPS := Lib.hid (show ∀ W (qa : Option Addr) (qc : Nat), P.length ≤ 4 ∧ ListK 3 (FnP 20) (fun _ => True) W qa P ∧ Below w.heap.size w W → Calls Tryd.prog 9 #[.agg (List.toArray [.slice qa P.length qc])] W fun e w' => e = .returned (.bool (progB P)) ∧ Hid (Below w.heap.size w w') from fun W qa qc hW =>
    (progValidS_any 20 (fun _ => True) qa qc P W hW.2.1 (by have := hW.1; omega)).mono fun e w' h => ⟨h.1, Lib.hid (hW.2.2.trans (h.2.mono hW.2.2.size))⟩)
  clear hR hP hLaw
  have hne : (R != R) = false := by simp
  have hlo : decide (R < -1) = false := decide_eq_false (by have := HRL.out.1; omega)
  have hhi : decide ((ps.length : Int) ≤ R) = false := decide_eq_false (by have := HRL.out.2.1; omega)
  have hlo' : ¬ R < -1 := by have := HRL.out.1; omega
  have hhi' : ¬ (ps.length : Int) ≤ R := by have := HRL.out.2.1; omega
  go_wp2_with fail
  refine (HIC.out _ (Below.refl _ _)).mono ?_
  rintro e w3 ⟨rfl, hB3⟩
  have c3 := cell_later hB3.out HC0.out
  clear p0
  go_wp2_with fail
  refine (HSC.out _ hB3.out).mono ?_
  rintro e w4 ⟨rfl, hB4⟩
  have c4 := cell_later hB4.out HC0.out
  clear c3
  go_wp2_with fail
  go_loopg [46] ps.length (fun G i wr => ∃ (j : Nat), j + G = ps.length ∧ i = .int .i64 j ∧ Hid (Below w2.heap.size w2 wr))
  case atStart => exact ⟨0, by omega, rfl, hB4⟩
  case round =>
    obtain ⟨j, hj, rfl, HG⟩ := hrel
    clear c4
    have hl4 : ps.length ≤ 4 := HW.out.2.2.2.2
    by_cases hlt : j < ps.length
    · have hji : (j : Int) < (ps.length : Int) := by omega
      obtain ⟨b, off, x, xa, xc, ba, bc, rfl, hx, hF, c0, c1, c2⟩ := fn_place (HW.out.2.2.2.1.below (fnP_stays 20) HG.out) hlt
      have hone := HRL.out.2.2 j x hx
      have hrow1 := heap_alloc_new wr (.cells #[.string x.name, .slice xa x.params.length xc, .slice ba x.body.length bc] 32)
      have e0 := cell_of_row _ _ 0 _ _ _ hrow1
      simp only [List.getElem?_toArray, List.getElem?_cons_zero] at e0
      have HG2 := Lib.hid (HG.out.trans (((Below.refl wr.heap.size wr).alloc (Nat.le_refl _) (.cells #[.string x.name, .slice xa x.params.length xc, .slice ba x.body.length bc] 32)).mono HG.out.size))
      clear hx hF hrow1
      cases hv : sameF nm x with
      | true =>
        obtain ⟨h0, h1⟩ := hone.1 hv
        have hv2 : (x.name.toList == nm.toList) = true := hv
        have hv3 : (x.name.toList != nm.toList) = false := by rw [bne, hv2]; rfl
        have hd0 : decide (R < 0) = false := decide_eq_false (by omega)
        have hd1 : decide ((j : Int) < R) = false := decide_eq_false (by omega)
        clear hv hone h0 h1
        by_cases he : (j : Int) = R
        · have hde : ((j : Int) == R) = true := by rw [he]; simp
          clear he
          go_wp2
          go_roundg (gk - 1)
          case measure => omega
          case rel => exact ⟨j + 1, by omega, by go_num, HG2⟩
        · have hde : ((j : Int) == R) = false := by rw [beq_eq_false_iff_ne]; exact he
          clear he
          go_wp2
          go_roundg (gk - 1)
          case measure => omega
          case rel => exact ⟨j + 1, by omega, by go_num, HG2⟩
      | false =>
        have hv2 : (x.name.toList == nm.toList) = false := hv
        have hde : ((j : Int) == R) = false := by rw [beq_eq_false_iff_ne]; exact hone.2 hv
        clear hv hone
        go_wp2
        go_roundg (gk - 1)
        case measure => omega
        case rel => exact ⟨j + 1, by omega, by go_num, HG2⟩
    · obtain rfl : j = ps.length := by omega
      have HWr := Lib.hid (HW.out.1.trans (HG.out.mono HW.out.1.size))
      have he1 : (progB P == progB P) = true := by simp
      go_wp2_with fail
      refine (HDR.out _ HWr.out).mono ?_
      rintro e w5 ⟨qa, qc, rfl, h5⟩
      go_wp2_with fail
      refine (HPV.out _ qa qc h5.out (HOK.out.1.later h5.out.2.2) (HOK.out.2.later h5.out.2.2)).mono ?_
      rintro e w6 ⟨rfl, hB6⟩
      go_wp2_with fail
      refine (HDR.out _ hB6.out).mono ?_
      rintro e w7 ⟨qa2, qc2, rfl, h7⟩
      go_wp2_with fail
      refine (HPS.out _ qa2 qc2 h7.out).mono ?_
      rintro e w8 ⟨rfl, hB8⟩
      go_wp2
      go_ret
      exact ⟨rfl, hB8.out⟩

end Go.Proofs.YtccdmgncjlpebaaDoor
