
/-
  ReadMins, the program's: the number of a text, the index of a word in the table of the forms.
-/
import Derived.Test.YtdkafajmhgfkoaaDoorRmCut
import Derived.Test.YtdkafajmhgfkoaaDoorMv3
namespace Go.Proofs.YtdkafajmhgfkoaaDoor
open Go.RowKit

/-- The table of the forms, with its words. -/
def FormsNm (w : World) : Prop := ∀ i : Nat, i < 23 → w.cell? ⟨0, i * 2, none⟩ = some (.string (nameL.getD i ⟨#[]⟩)) ∧ w.cell? ⟨0, i * 2 + 1, none⟩ = some (.int .i64 (fmL.getD i 0))
theorem FormsNm.later {w w' : World} (h : FormsNm w) (hb : Below w.heap.size w w') : FormsNm w' := fun i hi => by
  obtain ⟨h1, h2⟩ := h i hi
  exact ⟨cell_later hb h1, cell_later hb h2⟩

set_option maxHeartbeats 1000000 in
theorem readMins1_any (nm : ByteArray) (F : Int) (ws : List ByteArray) (bw : Nat) (a : Option Addr) (n c : Nat) (w : World) (hS : StrsRd w a n ws) (hn : 1 ≤ n) (hw : w.cell? ⟨bw, 0, none⟩ = some (.slice a n c)) :
    Calls Tryd.prog 36 #[.agg #[.string nm, .int .i64 F], .pointer (some ⟨bw, 0, none⟩)] w fun e w' => e = .returned (.bool (nm.toList == (ws.getD 0 ⟨#[]⟩).toList)) ∧ Below w.heap.size w w' := by
  have hba : Below w.heap.size w (w.alloc (.cells #[.string nm, .int .i64 F] 65)) := (Below.refl _ _).alloc (Nat.le_refl _) _
  obtain ⟨b, off, rfl, h0⟩ := hS.place (show 0 < n by omega)
  have k0 := cell_later hba h0
  have kw := cell_later hba hw
  have kn := cell_of_row _ _ 0 _ _ _ (heap_alloc_new w (.cells #[.string nm, .int .i64 F] 65))
  simp only [List.getElem?_toArray, List.getElem?_cons_zero] at kn
  rw [Nat.add_zero] at k0
  have hni : (0 : Int) < (n : Int) := by omega
  have HB := Lib.hid hba
  clear hS h0 hw hba
  generalize ws.getD 0 ⟨#[]⟩ = w0 at k0 ⊢
  go_enter Tryd.func36, Tryd.ntmps36
  go_upto_region 1 with fail
  go_quiet (fail)
  go_wp2
  go_ret
  exact ⟨rfl, below_drewN HB.out _⟩

/-- The function value answers p of each form, and changes nothing that was there. -/
structure FormFn (w : World) (f : Nat) (caps : Array Value) (p : ByteArray → Bool) : Prop where
  enter : ∀ v W, (callFunc f (#[v] ++ caps)).run Tryd.prog W = .ok (.enter f (#[v] ++ caps)) W
  calls : ∀ nm F W, Below w.heap.size w W → Calls Tryd.prog f (#[.agg #[.string nm, .int .i64 F]] ++ caps) W fun e w' => e = .returned (.bool (p nm)) ∧ Below W.heap.size W w'

set_option maxHeartbeats 800000 in
theorem indexForms_any (f : Nat) (caps : Array Value) (p : ByteArray → Bool) (w : World) (hin : FormsNm w) (hf : FormFn w f caps p) :
    Calls Tryd.prog 35 #[.slice (some ⟨0, 0, none⟩) 23 23, .func (.func f) #[] caps] w fun e w' => e = .returned (.int .i64 (idxM p nameL)) ∧ Below w.heap.size w w' := by
  have hen := hf.enter
  have HF := Lib.hid hin
  clear hin
  go_enter Tryd.func35, Tryd.ntmps35
  go_wp2
  go_loopg [8] 23 (fun G i wr => ∃ k : Nat, k + G = 23 ∧ i = .int .i64 k ∧ Hid (Below w.heap.size w wr ∧ ∀ (j : Nat) x, j < k → nameL[j]? = some x → p x = false))
  case atStart => exact ⟨0, by omega, rfl, Lib.hid ⟨Below.refl _ _, fun j x hj => by omega⟩⟩
  case round =>
    obtain ⟨k, hk, rfl, hno⟩ := hrel
    by_cases hlt : k < 23
    · obtain ⟨c0, c1⟩ := HF.out.later hno.out.1 k hlt
      have hki : (k : Int) < 23 := by omega
      have HX := Lib.hid (show nameL[k]? = some (nameL.getD k ⟨#[]⟩) by
        rw [List.getD_eq_getElem?_getD, List.getElem?_eq_getElem (show k < nameL.length from hlt)]; rfl)
      have HC := Lib.hid (hf.calls (nameL.getD k ⟨#[]⟩) (fmL.getD k 0) wr hno.out.1)
      generalize nameL.getD k ⟨#[]⟩ = nm at c0 HX HC ⊢
      generalize fmL.getD k 0 = F at c1 HC ⊢
      by_cases hp : p nm = true
      · have HI := Lib.hid (idxM_some hno.out.2 HX.out hp)
        have HP := Lib.hid hp
        clear hp
        go_wp2_with fail
        refine HC.out.mono ?_
        rw [HP.out]
        rintro e w1 ⟨rfl, hb1⟩
        have HE := Lib.hid (hno.out.1.trans (hb1.mono hno.out.1.size))
        clear c0 c1 hb1
        go_wp2
        go_ret
        exact ⟨ret_int HI.out.symm, HE.out⟩
      · have hp' : p nm = false := by simpa using hp
        have HP := Lib.hid hp'
        clear hp hp'
        go_wp2_with fail
        refine HC.out.mono ?_
        rw [HP.out]
        rintro e w1 ⟨rfl, hb1⟩
        have HE := Lib.hid (hno.out.1.trans (hb1.mono hno.out.1.size))
        clear c0 c1 hb1
        go_wp2
        go_roundg (gk - 1)
        case measure => omega
        case rel =>
          refine ⟨k + 1, by omega, by go_num, Lib.hid ⟨HE.out, fun j x hj hjx => ?_⟩⟩
          by_cases hjk : j = k
          · subst hjk
            rw [HX.out] at hjx
            cases hjx
            exact HP.out
          · exact hno.out.2 j x (by omega) hjx
    · obtain rfl : k = 23 := by omega
      have HE := Lib.hid hno.out.1
      have HI := Lib.hid (show idxM p nameL = -1 from idxM_none (fun r hr => by
        obtain ⟨j, hj⟩ := List.getElem?_of_mem hr
        exact hno.out.2 j r (List.getElem?_eq_some_iff.1 hj).1 hj))
      go_wp2
      go_ret
      exact ⟨ret_int HI.out.symm, HE.out⟩

theorem isDigit_any (s : ByteArray) (j : Nat) (w : World) : Calls Tryd.prog 49 #[.int .u8 (chr s j)] w fun e w' => e = .returned (.bool (digAt s j)) ∧ w' = w := by
  unfold digAt
  by_cases h1 : 48 ≤ chr s j
  · have d1 : decide (48 ≤ chr s j) = true := decide_eq_true h1
    by_cases h2 : chr s j ≤ 57
    · have d2 : decide (chr s j ≤ 57) = true := decide_eq_true h2
      rw [d1, d2]
      go_enter Tryd.func49, Tryd.ntmps49
      go_wp2
      go_ret
      exact ⟨rfl, rfl⟩
    · have d2 : decide (chr s j ≤ 57) = false := decide_eq_false h2
      rw [d1, d2]
      go_enter Tryd.func49, Tryd.ntmps49
      go_wp2
      go_ret
      exact ⟨rfl, rfl⟩
  · have d1 : decide (48 ≤ chr s j) = false := decide_eq_false h1
    rw [d1]
    go_enter Tryd.func49, Tryd.ntmps49
    go_wp2
    go_ret
    exact ⟨rfl, rfl⟩

end Go.Proofs.YtdkafajmhgfkoaaDoor
