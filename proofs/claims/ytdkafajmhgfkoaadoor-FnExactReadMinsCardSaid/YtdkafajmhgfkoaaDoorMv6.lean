
/-
  MachValid: the reference's test of an instruction.
-/
import Derived.Test.YtdkafajmhgfkoaaDoorMv5
namespace Go.Proofs.YtdkafajmhgfkoaaDoor
open Go.RowKit

def chr (s : ByteArray) (j : Nat) : Int := ((s[j]?).map (fun b => (b.toNat : Int))).getD 0
def hasTo (s : ByteArray) (f : Int) : Nat → Bool
  | 0 => false
  | j + 1 => hasTo s f j || chr s j == f
def restS (s : ByteArray) (x : MinsD) (k : Nat) : Bool := hasTo s (letK k) s.size || fieldAt x k == 0
def okS (s : ByteArray) (x : MinsD) (j : Nat) : Bool := chr s j == 78 || inR 0 (fieldAt x (chr s j - 65).toNat) 7

theorem idx_str (s : ByteArray) (j : Nat) (h : j < s.size) (w : World) : (Instr.index 9 (.string s) (.int .i64 (j : Int))).run Tryd.prog w = .ok (.int .u8 (chr s j)) w := by
  rw [run_index_string w 9 s .i64 j (by kernel_rfl), dif_pos ⟨by omega, by omega⟩]
  have h2 : s[j]? = some (s[j]'h) := ByteArray.getElem?_lt' s _ h
  rw [chr, h2]; rfl
theorem idx_abcn (k : Nat) (h : k < 4) (w : World) : (Instr.index 9 (.string ⟨#[65, 66, 67, 78]⟩) (.int .i64 (k : Int))).run Tryd.prog w = .ok (.int .u8 (letK k)) w := by
  obtain rfl | rfl | rfl | rfl : k = 0 ∨ k = 1 ∨ k = 2 ∨ k = 3 := by omega
  all_goals kernel_rfl
theorem words_has : ∀ n : Nat, n < 23 → ∀ k : Nat, k < 4 → hasTo (wordL.getD n ⟨#[]⟩) (letK k) (wordL.getD n ⟨#[]⟩).size = bitB (fmL.getD n 0) k := by decide
theorem words_vals : ∀ n : Nat, n < 23 → 1 ≤ n → (wordL.getD n ⟨#[]⟩ = ⟨#[65, 78]⟩ ∧ fmL.getD n 0 = 9) ∨ (wordL.getD n ⟨#[]⟩ = ⟨#[65, 66]⟩ ∧ fmL.getD n 0 = 3) ∨ (wordL.getD n ⟨#[]⟩ = ⟨#[65, 66, 67]⟩ ∧ fmL.getD n 0 = 7) ∨ (wordL.getD n ⟨#[]⟩ = ⟨#[65]⟩ ∧ fmL.getD n 0 = 1) ∨ (wordL.getD n ⟨#[]⟩ = ⟨#[78]⟩ ∧ fmL.getD n 0 = 8) := by decide
theorem word_of {n : Nat} (h : opB (n : Int) = true) : wordOf (n : Int) = wordL.getD n ⟨#[]⟩ := by rw [wordOf, h, Int.toNat_natCast]; rfl
theorem allK_same {p q : Nat → Bool} : ∀ {n : Nat}, (∀ k, k < n → p k = q k) → allK p n = allK q n
  | 0, _ => rfl
  | n + 1, h => by rw [allK, allK, allK_same (n := n) (fun k hk => h k (by omega)), h n (by omega)]
theorem rest_same {x : MinsD} (h : opB x.op = true) : allK (restS (wordOf x.op) x) 4 = formB x := by
  obtain ⟨op, fa, fb, fc, fn⟩ := x
  have h : opB op = true := h
  rw [formB, h, Bool.true_and]
  obtain ⟨n, rfl, h1, h2⟩ := fm_of h
  refine allK_same fun k hk => ?_
  show restS (wordOf (n : Int)) _ k = _
  rw [restS, restQ, word_of h, words_has n (by omega) k hk]
  show _ = (bitB (fm (n : Int)) k || _)
  rw [fm, Int.toNat_natCast]
theorem ok_same {x : MinsD} (hf : formB x = true) : allK (okS (wordOf x.op) x) (wordOf x.op).size = (inR 0 x.fa 7 && (inR 0 x.fb 7 && inR 0 x.fc 7)) := by
  obtain ⟨op, fa, fb, fc, fn⟩ := x
  have h : opB op = true := by rw [formB, Bool.and_eq_true] at hf; exact hf.1
  have hr : allK (restQ ⟨op, fa, fb, fc, fn⟩) 4 = true := by rw [formB, Bool.and_eq_true] at hf; exact hf.2
  obtain ⟨n, rfl, h1, h2⟩ := fm_of h
  have hfm : fm (n : Int) = fmL.getD n 0 := by rw [fm, Int.toNat_natCast]
  simp only [allK, restQ, hfm, fieldAt, Bool.true_and, Bool.and_eq_true] at hr
  obtain ⟨⟨⟨r0, r1⟩, r2⟩, r3⟩ := hr
  show allK (okS (wordOf (n : Int)) _) (wordOf (n : Int)).size = _
  rw [word_of h]
  have h0 : inR 0 0 7 = true := by decide
  rcases words_vals n (by omega) h1 with ⟨hw, hm⟩ | ⟨hw, hm⟩ | ⟨hw, hm⟩ | ⟨hw, hm⟩ | ⟨hw, hm⟩
  · rw [hw]
    rw [hm] at r1 r2
    have e1 : fb = 0 := by simpa [show bitB 9 1 = false from rfl] using r1
    have e2 : fc = 0 := by simpa [show bitB 9 2 = false from rfl] using r2
    show ((true && (false || inR 0 fa 7)) && (true || _)) = _
    rw [e1, e2, h0]; simp
  · rw [hw]
    rw [hm] at r2
    have e2 : fc = 0 := by simpa [show bitB 3 2 = false from rfl] using r2
    show ((true && (false || inR 0 fa 7)) && (false || inR 0 fb 7)) = _
    rw [e2, h0]; simp
  · rw [hw]
    show (((true && (false || inR 0 fa 7)) && (false || inR 0 fb 7)) && (false || inR 0 fc 7)) = _
    simp [Bool.and_assoc]
  · rw [hw]
    rw [hm] at r1 r2
    have e1 : fb = 0 := by simpa [show bitB 1 1 = false from rfl] using r1
    have e2 : fc = 0 := by simpa [show bitB 1 2 = false from rfl] using r2
    show (true && (false || inR 0 fa 7)) = _
    rw [e1, e2, h0]; simp
  · rw [hw]
    rw [hm] at r0 r1 r2
    have e0 : fa = 0 := by simpa [show bitB 8 0 = false from rfl] using r0
    have e1 : fb = 0 := by simpa [show bitB 8 1 = false from rfl] using r1
    have e2 : fc = 0 := by simpa [show bitB 8 2 = false from rfl] using r2
    show (true && (true || _)) = _
    rw [e0, e1, e2, h0]; simp
theorem word_chr {x : Int} (h : opB x = true) : 0 < (wordOf x).size ∧ (wordOf x).size ≤ 3 ∧ ∀ j, j < (wordOf x).size → ∃ k, k < 4 ∧ chr (wordOf x) j = letK k := by
  obtain ⟨n, rfl, h1, h2⟩ := fm_of h
  rw [word_of h]
  rcases words_vals n (by omega) h1 with ⟨hw, hm⟩ | ⟨hw, hm⟩ | ⟨hw, hm⟩ | ⟨hw, hm⟩ | ⟨hw, hm⟩ <;> rw [hw] <;> refine ⟨by decide, by decide, ?_⟩ <;> decide

set_option maxRecDepth 100000 in
set_option maxHeartbeats 2000000 in
theorem l22Rest_any (x : MinsD) (s : ByteArray) (hs : s.size ≤ 3) (w : World) :
    Calls Tryd.prog 43 #[.agg #[.int .i64 x.op, .int .i64 x.fa, .int .i64 x.fb, .int .i64 x.fc, .int .i64 x.fn], .string s] w fun e w' => e = .returned (.bool (allK (restS s x) 4)) ∧ Below w.heap.size w w' := by
  have HFA := Lib.hid (fun k (hk : k < 4) W => l22Field_any x k hk W)
  obtain ⟨op, fa, fb, fc, fn⟩ := x
  have hb0 : Below w.heap.size w (w.alloc (.cells #[.int .i64 op, .int .i64 fa, .int .i64 fb, .int .i64 fc, .int .i64 fn] 41)) := (Below.refl _ _).alloc (Nat.le_refl _) _
  have hr := heap_alloc_new w (.cells #[.int .i64 op, .int .i64 fa, .int .i64 fb, .int .i64 fc, .int .i64 fn] 41)
  have HB := Lib.hid (And.intro hb0 hr)
  have HV := Lib.hid (show restS s ⟨op, fa, fb, fc, fn⟩ = restS s ⟨op, fa, fb, fc, fn⟩ from rfl)
  clear hr hb0
  show Calls _ _ #[.agg #[.int .i64 op, .int .i64 fa, .int .i64 fb, .int .i64 fc, .int .i64 fn], .string s] w _
  go_enter Tryd.func43, Tryd.ntmps43
  go_wp2_with fail
  generalize w.alloc (.cells #[.int .i64 op, .int .i64 fa, .int .i64 fb, .int .i64 fc, .int .i64 fn] 41) = W1 at HB ⊢
  go_loopg [5] 4 (fun G i wr => ∃ k : Nat, k + G = 4 ∧ i = .int .i64 k ∧ Hid (allK (restS s ⟨op, fa, fb, fc, fn⟩) k = true ∧ Below W1.heap.size W1 wr))
  case atStart => exact ⟨0, by omega, rfl, Lib.hid ⟨rfl, Below.refl _ _⟩⟩
  case round =>
    obtain ⟨k, hk, rfl, HK⟩ := hrel
    by_cases hlt : k < 4
    · have HST := Lib.hid (fun (h : restS s ⟨op, fa, fb, fc, fn⟩ k = false) => show allK (restS s ⟨op, fa, fb, fc, fn⟩) 4 = false from allK_stop h hlt)
      have HNX := Lib.hid (fun (h : restS s ⟨op, fa, fb, fc, fn⟩ k = true) => allK_next HK.out.1 h)
      have hix := idx_abcn k hlt wr
      have hki : (k : Int) < 4 := by omega
      go_wp2
      go_loopg [7, 8] s.size (fun G v i wq => ∃ j : Nat, j + G = s.size ∧ i = .int .i64 j ∧ v = .bool (hasTo s (letK k) j) ∧ wq = wr)
      case atStart => exact ⟨0, by omega, rfl, rfl, rfl⟩
      case round =>
        obtain ⟨j, hj, rfl, rfl, rfl⟩ := hrel
        by_cases hlt2 : j < s.size
        · have hji : (j : Int) < (s.size : Int) := by omega
          have hjx := idx_str s j hlt2 wr
          cases hh : hasTo s (letK k) j with
          | true =>
            have HN := Lib.hid (show hasTo s (letK k) (j + 1) = true by rw [hasTo, hh]; rfl)
            clear hh
            go_wp2
            go_roundg (gk - 1)
            case measure => omega
            case rel => exact ⟨j + 1, by omega, by go_num, by rw [HN.out], rfl⟩
          | false =>
            cases hc : (chr s j == letK k) with
            | true =>
              have HN := Lib.hid (show hasTo s (letK k) (j + 1) = true by rw [hasTo, hc, Bool.or_true])
              clear hh
              go_wp2
              go_roundg (gk - 1)
              case measure => omega
              case rel => exact ⟨j + 1, by omega, by go_num, by rw [HN.out], rfl⟩
            | false =>
              have HN := Lib.hid (show hasTo s (letK k) (j + 1) = false by rw [hasTo, hh, hc]; rfl)
              clear hh
              go_wp2
              go_roundg (gk - 1)
              case measure => omega
              case rel => exact ⟨j + 1, by omega, by go_num, by rw [HN.out], rfl⟩
        · obtain rfl : j = s.size := by omega
          have HQ := Lib.hid (show restS s ⟨op, fa, fb, fc, fn⟩ k = (hasTo s (letK k) s.size || fieldAt ⟨op, fa, fb, fc, fn⟩ k == 0) from rfl)
          cases hh : hasTo s (letK k) s.size with
          | true =>
            have HN := Lib.hid (HNX.out (by rw [HQ.out, hh]; rfl))
            clear hh
            go_wp2
            go_roundg (4 - (k + 1))
            case measure => omega
            case rel => exact ⟨k + 1, by omega, by go_num, Lib.hid ⟨HN.out, HK.out.2⟩⟩
          | false =>
            have hrow := (HK.out.2.block _ (Array.getElem?_eq_some_iff.1 HB.out.2).1).trans HB.out.2
            have d0 := cell_of_row _ _ 0 _ _ _ hrow
            have d1 := cell_of_row _ _ 1 _ _ _ hrow
            have d2 := cell_of_row _ _ 2 _ _ _ hrow
            have d3 := cell_of_row _ _ 3 _ _ _ hrow
            have d4 := cell_of_row _ _ 4 _ _ _ hrow
            simp only [List.getElem?_toArray, List.getElem?_cons_zero, List.getElem?_cons_succ] at d0 d1 d2 d3 d4
            have HC := Lib.hid (HFA.out k hlt wr)
            clear hrow
            cases hz : (fieldAt ⟨op, fa, fb, fc, fn⟩ k == 0) with
            | true =>
              have hz2 : (fieldAt ⟨op, fa, fb, fc, fn⟩ k != 0) = false := by rw [bne, hz]; rfl
              have HN := Lib.hid (HNX.out (by rw [HQ.out, hz, Bool.or_true]))
              clear hh hz
              go_wp2_with fail
              refine HC.out.mono ?_
              rintro e w3 ⟨rfl, hb3⟩
              have HB3 := Lib.hid (HK.out.2.trans (hb3.mono HK.out.2.size))
              clear hb3 d0 d1 d2 d3 d4
              go_wp2
              go_roundg (4 - (k + 1))
              case measure => omega
              case rel => exact ⟨k + 1, by omega, by go_num, Lib.hid ⟨HN.out, HB3.out⟩⟩
            | false =>
              have hz2 : (fieldAt ⟨op, fa, fb, fc, fn⟩ k != 0) = true := by rw [bne, hz]; rfl
              have HN := Lib.hid (HST.out (by rw [HQ.out, hh, hz]; rfl))
              clear hh hz
              go_wp2_with fail
              refine HC.out.mono ?_
              rintro e w3 ⟨rfl, hb3⟩
              have HB3 := Lib.hid (HB.out.1.trans ((HK.out.2.trans (hb3.mono HK.out.2.size)).mono HB.out.1.size))
              clear hb3 d0 d1 d2 d3 d4
              go_wp2
              go_ret
              exact ⟨ret_bool HN.out.symm, HB3.out⟩
    · obtain rfl : k = 4 := by omega
      have HN := Lib.hid HK.out.1
      go_wp2
      go_ret
      exact ⟨ret_bool HN.out.symm, HB.out.1.trans (HK.out.2.mono HB.out.1.size)⟩

end Go.Proofs.YtdkafajmhgfkoaaDoor
