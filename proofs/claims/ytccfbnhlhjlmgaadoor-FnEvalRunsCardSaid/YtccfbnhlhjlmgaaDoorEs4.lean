
/-
  Expressions: the reference's l2Has, l5Plain, l5Values.
-/
import Derived.Test.YtccfbnhlhjlmgaaDoorEs3
import Derived.Test.YtccfbnhlhjlmgaaDoorEy9
namespace Go.Proofs.YtccfbnhlhjlmgaaDoor
open Go.RowKit

set_option maxHeartbeats 400000 in
theorem l2Has_any (a : Option Addr) (len c : Nat) (xs : List ByteArray) (s : ByteArray) (w : World) (hin : StrsE w a len xs) (hs : len ≤ maxLen) :
    Calls Tryd.prog 134 #[.slice a len c, .string s] w fun e w' => e = .returned (.bool (hasE xs s)) ∧ w' = w := by
  have HL := Lib.hid hin.length
  have hs2 : len ≤ 9223372036854775807 := by unfold maxLen at hs; omega
  clear hs
  go_enter Tryd.func134, Tryd.ntmps134
  go_wp2
  go_loop [5] (fun i => ∃ k : Nat, k ≤ len ∧ i = .int .i64 k ∧ Hid (∀ j y, j < k → xs[j]? = some y → (s.toList == y.toList) = false)) (fun i => len - (intOf i).toNat)
  case atStart => exact ⟨0, Nat.zero_le _, rfl, Lib.hid (fun j x hj => by omega)⟩
  case round =>
    obtain ⟨k, hk, rfl, hno⟩ := hrel
    by_cases hlt : k < len
    · obtain ⟨b, off, y, rfl, hy, hc⟩ := hin.place hlt
      have hki : (k : Int) < (len : Int) := by omega
      have HY := Lib.hid hy
      clear hy
      have HCM := Lib.hid (eqE_comm s y)
      cases ht : y.toList == s.toList with
      | true =>
        have HI := Lib.hid (show hasE xs s = true from List.any_eq_true.2 ⟨y, List.mem_of_getElem? HY.out, by rw [HCM.out]; exact ht⟩)
        go_wp2
        go_ret
        exact ⟨by rw [HI.out]; rfl, rfl⟩
      | false =>
        have HN := Lib.hid (show (s.toList == y.toList) = false by rw [HCM.out]; exact ht)
        go_wp2
        go_round
        case rel =>
          refine ⟨k + 1, by omega, by go_num, Lib.hid fun j z hj hjz => ?_⟩
          by_cases hjk : j = k
          · subst hjk
            rw [HY.out] at hjz
            cases hjz
            exact HN.out
          · exact hno.out j z (by omega) hjz
        case measure => simp [intOf]; omega
    · obtain rfl : k = len := by omega
      have HI := Lib.hid (show hasE xs s = false from List.any_eq_false.2 fun y hy => by
        obtain ⟨j, hj⟩ := List.getElem?_of_mem hy
        rw [hno.out j y (by have := (List.getElem?_eq_some_iff.1 hj).1; have := HL.out; omega) hj]
        simp)
      go_wp2
      go_ret
      exact ⟨by rw [HI.out]; rfl, rfl⟩

set_option maxHeartbeats 400000 in
theorem l5Values_any (a : Option Addr) (len c : Nat) (vs : List Int) (w : World) (hin : IntsRd w a len vs) (hs : len ≤ 1099511627776) :
    Calls Tryd.prog 87 #[.slice a len c] w fun e w' => e = .returned (.bool (bytesB vs)) ∧ w' = w := by
  have HL := Lib.hid hin.length
  go_enter Tryd.func87, Tryd.ntmps87
  go_wp2
  go_loop [3] (fun i => ∃ k : Nat, k ≤ len ∧ i = .int .i64 k ∧ Hid (∀ j y, j < k → vs[j]? = some y → inE 0 y 255 = true)) (fun i => len - (intOf i).toNat)
  case atStart => exact ⟨0, Nat.zero_le _, rfl, Lib.hid (fun j x hj => by omega)⟩
  case round =>
    obtain ⟨k, hk, rfl, hno⟩ := hrel
    by_cases hlt : k < len
    · obtain ⟨b, off, y, rfl, hy, hc⟩ := hin.place hlt
      have hki : (k : Int) < (len : Int) := by omega
      have HY := Lib.hid hy
      clear hy
      cases ht : inE 0 y 255 with
      | false =>
        have HI := Lib.hid (show bytesB vs = false from List.all_eq_false.2 ⟨y, List.mem_of_getElem? HY.out, by rw [ht]; simp⟩)
        go_wp2_with fail
        refine (l1InE_is ht _).mono ?_
        rintro e w1 ⟨rfl, rfl⟩
        clear ht
        go_wp2
        go_ret
        exact ⟨by rw [HI.out]; rfl, rfl⟩
      | true =>
        have HN := Lib.hid ht
        go_wp2_with fail
        refine (l1InE_is ht _).mono ?_
        rintro e w1 ⟨rfl, rfl⟩
        clear ht
        go_wp2
        go_round
        case rel =>
          refine ⟨k + 1, by omega, by go_num, Lib.hid fun j z hj hjz => ?_⟩
          by_cases hjk : j = k
          · subst hjk
            rw [HY.out] at hjz
            cases hjz
            exact HN.out
          · exact hno.out j z (by omega) hjz
        case measure => simp [intOf]; omega
    · obtain rfl : k = len := by omega
      have HI := Lib.hid (show bytesB vs = true from List.all_eq_true.2 fun y hy => by
        obtain ⟨j, hj⟩ := List.getElem?_of_mem hy
        exact hno.out j y (by have := (List.getElem?_eq_some_iff.1 hj).1; have := HL.out; omega) hj)
      go_wp2
      go_ret
      exact ⟨by rw [HI.out]; rfl, rfl⟩

set_option maxRecDepth 100000 in
set_option maxHeartbeats 4000000 in
theorem l5Plain_any (ns : List ByteArray) (na : Option Addr) (nn nc : Nat) (hnn : nn ≤ maxLen) : ∀ (d : Nat) (cs : List Value) (x : ExprD) (w : World), ExprAt d w cs x → StrsE w na nn ns →
    Calls Tryd.prog 86 #[.agg cs.toArray, .slice na nn nc] w fun e w' => e = .returned (.bool (!anyE (badP ns) d x)) ∧ Below w.heap.size w w' := by
  intro d
  induction d with
  | zero => exact fun _ _ _ h => h.elim
  | succ d ih =>
  intro cs x w hx hns
  obtain ⟨op, n, name, kids⟩ := x
  obtain ⟨ka, kc, rfl, ⟨hkl, hop⟩, hks⟩ := hx
  simp only [ExprD.op, ExprD.n, ExprD.name, ExprD.kids] at hkl hop hks ⊢
  have hkl2 : kids.length ≤ 9223372036854775807 := by unfold maxLen at hkl; omega
  show Calls _ _ #[.agg #[.int .i64 op, .int .i64 n, .string name, .slice ka kids.length kc], _] w _
  have hba : Below w.heap.size w (w.alloc (.cells #[.int .i64 op, .int .i64 n, .string name, .slice ka kids.length kc] 29)) := (Below.refl _ _).alloc (Nat.le_refl _) _
  have hrow := heap_alloc_new w (.cells #[.int .i64 op, .int .i64 n, .string name, .slice ka kids.length kc] 29)
  have e0 := cell_of_row _ _ 0 _ _ _ hrow
  have e2 := cell_of_row _ _ 2 _ _ _ hrow
  have e3 := cell_of_row _ _ 3 _ _ _ hrow
  simp only [List.getElem?_toArray, List.getElem?_cons_zero, List.getElem?_cons_succ] at e0 e2 e3
  have HB := Lib.hid hba
  have HK := Lib.hid (And.intro (hks.later (exprAt_lasts d) hba) (hns.later hba))
  have HIH := Lib.hid ih
  obtain ⟨R, hR⟩ : ∃ R, R = !anyE (badP ns) (d + 1) (ExprD.mk op n name kids) := ⟨_, rfl⟩
  rw [← hR]
  have HR := Lib.hid (hR.trans (show _ = !(badP ns (ExprD.mk op n name kids) || kids.any (anyE (badP ns) d)) from rfl))
  have HBP := Lib.hid (show badP ns (ExprD.mk op n name kids) = ((op == 12) || ((op == 13) || ((op == 2) && !hasE ns name))) from rfl)
  generalize badP ns (ExprD.mk op n name kids) = bad at HR HBP
  clear hba hrow hks hns hR hop ih
  go_enter Tryd.func86, Tryd.ntmps86
  go_upto_region 1 with fail
  obtain ⟨b, hb⟩ : ∃ b, b = w.heap.size := ⟨_, rfl⟩
  generalize w.alloc (.cells #[.int .i64 op, .int .i64 n, .string name, .slice ka kids.length kc] 29) = W1 at HB HK e0 e2 e3 ⊢
  rw [← hb] at e0 e2 e3 ⊢
  clear hb
  have HC := Lib.hid (l2Has_any na nn nc ns name W1 HK.out.2 hnn)
  go_cut [25] (fun s wx => wx = W1 ∧ s = .bool bad)
  case first =>
    by_cases h12 : op = 12
    · have HN := Lib.hid (show true = bad by rw [HBP.out]; simp [h12])
      subst h12
      go_wp2
      go_meet
      exact ⟨rfl, by rw [← HN.out]⟩
    · have o12 : (op == 12) = false := by simpa using h12
      clear h12
      by_cases h13 : op = 13
      · have HN := Lib.hid (show true = bad by rw [HBP.out]; simp [h13])
        subst h13
        go_wp2
        go_meet
        exact ⟨rfl, by rw [← HN.out]⟩
      · have o13 : (op == 13) = false := by simpa using h13
        clear h13
        by_cases h2 : op = 2
        · have HN := Lib.hid (show (!hasE ns name) = bad by rw [HBP.out]; simp [h2])
          subst h2
          generalize hasE ns name = c at HC HN
          clear HBP
          go_wp2_with fail
          refine HC.out.mono ?_
          rintro e w2 ⟨rfl, rfl⟩
          go_wp2
          go_meet
          exact ⟨rfl, by rw [← HN.out]⟩
        · have o2 : (op == 2) = false := by simpa using h2
          have HN := Lib.hid (show false = bad by rw [HBP.out, o12, o13, o2]; rfl)
          clear h2
          go_wp2
          go_meet
          exact ⟨rfl, by rw [← HN.out]⟩
  case rest =>
  obtain ⟨hw, rfl⟩ := hcut
  subst hw
  cases bad with
  | true =>
    have HN := Lib.hid (show R = false from HR.out)
    go_wp2
    go_ret
    exact ⟨by rw [HN.out]; rfl, HB.out⟩
  | false =>
    have HF := Lib.hid (show R = !(kids.any (anyE (badP ns) d)) by rw [HR.out, Bool.false_or])
    have HE3 := Lib.hid e3
    clear HR HBP HC e0 e2 e3
    go_wp2_with fail
    go_loopg [5] kids.length (fun G i wr => ∃ j : Nat, j + G = kids.length ∧ i = .int .i64 j ∧ Hid (Below wc.heap.size wc wr ∧ (kids.take j).any (anyE (badP ns) d) = false))
    case atStart => exact ⟨0, by omega, rfl, Lib.hid ⟨Below.refl _ _, rfl⟩⟩
    case round =>
      obtain ⟨j, hj, rfl, HQR⟩ := hrel
      have e3 := cell_later HQR.out.1 HE3.out
      by_cases hlt : j < kids.length
      · obtain ⟨b1, o1, k, cs1, rfl, hk, hkR, k1, k2, rfl, c0, c1, c2, c3⟩ := kid_place (HK.out.1.later (exprAt_lasts d) HQR.out.1) hlt
        have hki : (j : Int) < (kids.length : Int) := by omega
        have HQ := Lib.hid (HIH.out _ k wr hkR (HK.out.2.later HQR.out.1))
        have HT := Lib.hid (show kids.take (j + 1) = kids.take j ++ [k] from take_succ_of hk)
        have HMK := Lib.hid (List.mem_of_getElem? hk)
        clear hk hkR
        cases hf : anyE (badP ns) d k with
        | false =>
          have HN := Lib.hid (show (kids.take (j + 1)).any (anyE (badP ns) d) = false by rw [HT.out, List.any_append, HQR.out.2]; simp [hf])
          rw [hf] at HQ
          clear hf
          go_wp2_with fail
          refine HQ.out.mono ?_
          rintro e w5 ⟨rfl, hb5⟩
          have HE := Lib.hid (HQR.out.1.trans (hb5.mono HQR.out.1.size))
          clear hb5 c0 c1 c2 c3 e3
          go_wp2
          go_roundg (gk - 1)
          case measure => omega
          case rel => exact ⟨j + 1, by omega, by go_num, Lib.hid ⟨HE.out, HN.out⟩⟩
        | true =>
          have HN := Lib.hid (show R = false by
            rw [HF.out, List.any_eq_true.2 ⟨k, HMK.out, hf⟩]; rfl)
          rw [hf] at HQ
          clear hf
          go_wp2_with fail
          refine HQ.out.mono ?_
          rintro e w5 ⟨rfl, hb5⟩
          have HE := Lib.hid (HQR.out.1.trans (hb5.mono HQR.out.1.size))
          clear hb5 c0 c1 c2 c3 e3
          go_wp2
          go_ret
          exact ⟨by rw [HN.out]; rfl, HB.out.trans (HE.out.mono HB.out.size)⟩
      · obtain rfl : j = kids.length := by omega
        have HN := Lib.hid (show R = true by have := HQR.out.2; rw [List.take_length] at this; rw [HF.out, this]; rfl)
        go_wp2
        go_ret
        exact ⟨by rw [HN.out]; rfl, HB.out.trans (HQR.out.1.mono HB.out.size)⟩

end Go.Proofs.YtccfbnhlhjlmgaaDoor
