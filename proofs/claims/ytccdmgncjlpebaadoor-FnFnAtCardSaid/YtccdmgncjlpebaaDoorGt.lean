/-
  The reference draws programs: names (fresh), expressions (expr, cell).
-/
import Derived.Test.YtccdmgncjlpebaaDoorGs
import Derived.StillTailTactics
import Derived.Deep.QuietTactic
import Derived.BigQuiet

namespace Go.Proofs.YtccdmgncjlpebaaDoor
open Go.RowKit
set_option linter.unusedVariables false

section
variable {w0 : World} {br bg : Nat} {a : Option Addr} {len cap : Nat} {bs : List Int} {fa : Option Addr} {fc : Nat} {fns : List FnD}
set_option maxRecDepth 100000 in
set_option maxHeartbeats 4000000 in
theorem fresh_any (hlen : len ≤ 2000) (u : Nat) (va : Option Addr) (vc : Nat) (vars : List ByteArray) (next left : Int) (w : World) (h : GSt w0 br bg a len cap bs fa fc fns u va vc vars next left w) (hu : u ≤ 1000000000) :
    Calls Tryd.prog 69 #[.pointer (some ⟨bg, 0, none⟩)] w fun e w' => ∃ s n', e = .returned (.string s) ∧ s.size ≤ maxLen ∧ GSt w0 br bg a len cap bs fa fc fns (u + 3) va vc vars n' left w' ∧ Turn2 br bg w w' ∧ n' = next + 1 ∧ freshF bs vars (next + 1) (posOf w br) = (s, posOf w' br) := by
  have hn := h.bnd
  have HU := Lib.hid hu
  have hw : wrap64 (next + 1) = next + 1 := IntWalk.wrap64_in _ (by omega)
  have HS := Lib.hid ((h.more (show u ≤ u + 1 by omega)).setNext (n' := next + 1) (by omega))
  have c3 := h.c3
  have f3 := h.f 3
  have HN := Lib.hid (show 0 ≤ next + 1 ∧ next + 1 ≤ 1000000010 by omega)
  have HP0 := Lib.hid (show posOf (w.setCell ⟨bg, 3, none⟩ (.int .i64 (next + 1))) br = posOf w br from posOf_set (by have := h.base; omega))
  clear hn hu h
  go_enter Tryd.func69, Tryd.ntmps69
  go_upto_region 2 with fail
  clear c3 f3 hw
  obtain ⟨nx, hnx⟩ : ∃ n : Int, n = next + 1 := ⟨_, rfl⟩
  have HNX := Lib.hid hnx
  rw [← hnx] at HS HN HP0 ⊢
  clear hnx
  generalize w.setCell ⟨bg, 3, none⟩ (.int .i64 nx) = W1 at HS HP0 ⊢
  obtain ⟨p, hp, hrd⟩ := HS.out.1.rd
  have HP := Lib.hid hp
  have c0 := HS.out.1.c0
  go_wp2_with fail
  refine (pick_fun w0 _ br a len cap bs p 9 hrd (by omega) hlen (by have := HU.out; omega)).mono ?_
  rintro e w2 ⟨v, _, _, rfl, hrd2, hg2, hV⟩
  have HG2 := Lib.hid (And.intro (HS.out.1.step (u' := u + 2) (TurnR.grown hg2) hrd2 (by have := HP.out; omega) (by omega)) (HS.out.2.trans (Turn2.of (TurnR.grown hg2))))
  have HPW := Lib.hid (show posOf w br = p by rw [← HP0.out, hrd.pos])
  have HV := Lib.hid (And.intro hV hrd2.pos)
  clear hrd2 hg2 hrd hp c0 hV
  have c0 := HG2.out.1.c0
  have c2 := HG2.out.1.c2
  have c3 := HG2.out.1.c3
  by_cases hv : v = 0 ∧ 0 < vars.length
  · obtain ⟨rfl, hv2⟩ := hv
    have HVL := Lib.hid hv2
    obtain ⟨p2, hp2, hrd2⟩ := HG2.out.1.rd
    have HP2 := Lib.hid (And.intro hp2 hrd2)
    clear hp2 hrd2
    go_upto_region 3 with fail
    go_still_tail 8, (by kernel_rfl)
    change wpList _ _ _ _ _ w2.drew
    have HD := Lib.hid (And.intro HG2.out.1.drew (show Rd w0 w2.drew br a len cap bs p2 from HP2.out.2.later' ((Below.refl _ _).drew)))
    have HDB := Lib.hid (show Turn2 br bg w w2.drew from HG2.out.2.trans (Turn2.below ((Below.refl _ _).drew)))
    clear c0 c2 c3
    generalize w2.drew = W3 at HD HDB ⊢
    go_wp2_with fail
    refine (of_fun w0 W3 br a len cap bs p2 va vars.length vc vars HD.out.2 HD.out.1.strs (by have := HVL.out; omega) hlen (by have := HP2.out.1; have := HU.out; omega)).mono ?_
    rintro e w4 ⟨s, hs, rfl, hrd4, hg4, hF4⟩
    have HF := Lib.hid (show s.size ≤ maxLen ∧ GSt w0 br bg a len cap bs fa fc fns (u + 3) va vc vars nx left w4 ∧ Turn2 br bg w w4 from
      ⟨listK_sizes HD.out.1.vlist s hs, HD.out.1.step (TurnR.grown hg4) hrd4 (by have := HP2.out.1; omega) (by omega), HDB.out.trans (Turn2.of (TurnR.grown hg4))⟩)
    have HFF := Lib.hid (show freshF bs vars nx (posOf w br) = (s, posOf w4 br) by
      have h2 := HV.out.2
      rw [HP2.out.2.pos] at h2
      rw [hrd4.pos, HPW.out, freshF, if_pos ⟨HV.out.1, HVL.out⟩, h2]
      rw [h2] at hF4
      rw [hF4])
    clear hs hrd4 hg4 hF4
    go_wp2
    go_ret
    exact ⟨s, nx, rfl, HF.out.1, HF.out.2.1, HF.out.2.2, HNX.out, HNX.out ▸ HFF.out⟩
  · have HF0 := Lib.hid (And.intro (HG2.out.1.more (show u + 2 ≤ u + 3 by omega)) HG2.out.2)
    obtain ⟨k, hk⟩ : ∃ k : Nat, nx = k := Int.eq_ofNat_of_zero_le HN.out.1
    have hm0 : nx.tmod 24 = ((k % 24 : Nat) : Int) := by rw [hk]; rfl
    have HK := Lib.hid (show k % 24 < 24 by omega)
    obtain ⟨j, hj⟩ : ∃ j : Nat, j = k % 24 := ⟨_, rfl⟩
    have HFF := Lib.hid (show freshF bs vars nx (posOf w br) = (ByteArray.extract lettersF j (j + 1), posOf w2 br) by
      rw [HPW.out, HV.out.2, freshF, if_neg (by rw [HV.out.1]; exact hv), hj, hk, Int.toNat_natCast])
    rw [← hj] at hm0 HK
    have hwj : IntKind.i64.wrap ((j : Int) + 1) = (j : Int) + 1 := IntWalk.i64_in _ (by have := HK.out; omega)
    have hj1 : ((j : Int) + 1).toNat = j + 1 := by omega
    have hj2 : (0 : Int) ≤ (j : Int) + 1 := by omega
    have hj24 : (j : Int) + 1 ≤ 24 := by have := HK.out; omega
    clear hk hj
    by_cases hv0 : v = 0
    · subst hv0
      have hl0 : ¬ 0 < vars.length := fun h => hv ⟨rfl, h⟩
      clear hv
      go_upto_region 4 with fail
      go_quiet (fail)
      have HF := Lib.hid (show (ByteArray.extract ⟨#[97, 98, 99, 100, 101, 103, 104, 105, 106, 107, 108, 109, 110, 112, 113, 114, 115, 116, 117, 118, 119, 120, 121, 122]⟩ j (j + 1)).size ≤ maxLen ∧ GSt w0 br bg a len cap bs fa fc fns (u + 3) va vc vars nx left (w2.drewN nq) ∧ Turn2 br bg w (w2.drewN nq) from
        ⟨by rw [ByteArray.size_extract]; unfold maxLen; omega, HF0.out.1.drewN nq, HF0.out.2.trans (Turn2.drewN w2 nq)⟩)
      clear c0 c2 c3 hm0 hwj hj1 hj2 hj24
      go_wp2
      go_ret
      exact ⟨_, nx, rfl, HF.out.1, HF.out.2.1, HF.out.2.2, HNX.out, HNX.out ▸ HFF.out⟩
    have hv1 : (v == 0) = false := by simpa using hv0
    clear hv hv0
    go_upto_region 4 with fail
    go_quiet (fail)
    have HF := Lib.hid (show (ByteArray.extract ⟨#[97, 98, 99, 100, 101, 103, 104, 105, 106, 107, 108, 109, 110, 112, 113, 114, 115, 116, 117, 118, 119, 120, 121, 122]⟩ j (j + 1)).size ≤ maxLen ∧ GSt w0 br bg a len cap bs fa fc fns (u + 3) va vc vars nx left (w2.drewN nq) ∧ Turn2 br bg w (w2.drewN nq) from
      ⟨by rw [ByteArray.size_extract]; unfold maxLen; omega, HF0.out.1.drewN nq, HF0.out.2.trans (Turn2.drewN w2 nq)⟩)
    clear c0 c2 c3 hm0 hwj hj1 hj2 hj24
    go_wp2
    go_ret
    exact ⟨_, nx, rfl, HF.out.1, HF.out.2.1, HF.out.2.2, HNX.out, HNX.out ▸ HFF.out⟩
end

end Go.Proofs.YtccdmgncjlpebaaDoor
