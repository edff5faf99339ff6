
/-
  MachValid: the reference's.
-/
import Derived.Test.YtdkafajmhgfkoaaDoorMv4
namespace Go.Proofs.YtdkafajmhgfkoaaDoor
open Go.RowKit

theorem l1InM_any (x lo hi : Int) (w : World) : Calls Tryd.prog 26 #[.int .i64 x, .int .i64 lo, .int .i64 hi] w fun e w' => e = .returned (.bool (inR lo x hi)) ∧ w' = w := by
  unfold inR
  by_cases h1 : lo ≤ x
  · have d1 : decide (lo ≤ x) = true := decide_eq_true h1
    by_cases h2 : x ≤ hi
    · have d2 : decide (x ≤ hi) = true := decide_eq_true h2
      rw [d1, d2]
      go_enter Tryd.func26, Tryd.ntmps26
      go_wp2
      go_ret
      exact ⟨rfl, rfl⟩
    · have d2 : decide (x ≤ hi) = false := decide_eq_false h2
      rw [d1, d2]
      go_enter Tryd.func26, Tryd.ntmps26
      go_wp2
      go_ret
      exact ⟨rfl, rfl⟩
  · have d1 : decide (lo ≤ x) = false := decide_eq_false h1
    rw [d1]
    go_enter Tryd.func26, Tryd.ntmps26
    go_wp2
    go_ret
    exact ⟨rfl, rfl⟩
theorem l1InM_is {x lo hi : Int} {v : Bool} (h : inR lo x hi = v) (w : World) : Calls Tryd.prog 26 #[.int .i64 x, .int .i64 lo, .int .i64 hi] w fun e w' => e = .returned (.bool v) ∧ w' = w := by
  rw [← h]; exact l1InM_any x lo hi w

/-- The letters of the fields. -/
def letters : List Nat := [65, 66, 67, 78]
def letK (k : Nat) : Int := if k = 0 then 65 else if k = 1 then 66 else if k = 2 then 67 else 78
/-- The words of the fields of each op. -/
def wordL : List ByteArray := [⟨#[]⟩, ⟨#[65, 78]⟩, ⟨#[65, 66]⟩, ⟨#[65, 66, 67]⟩, ⟨#[65, 66, 67]⟩, ⟨#[65, 66, 67]⟩, ⟨#[65, 66, 67]⟩, ⟨#[65, 66, 67]⟩, ⟨#[65, 66, 67]⟩, ⟨#[65, 66, 67]⟩, ⟨#[65, 66]⟩, ⟨#[65, 66]⟩, ⟨#[65, 66]⟩, ⟨#[65]⟩, ⟨#[78]⟩, ⟨#[65, 78]⟩, ⟨#[65, 78]⟩, ⟨#[65, 78]⟩, ⟨#[65, 78]⟩, ⟨#[65]⟩, ⟨#[78]⟩, ⟨#[65, 78]⟩, ⟨#[65]⟩]

def nameL : List ByteArray := [⟨#[]⟩, ⟨#[115, 101, 116]⟩, ⟨#[109, 111, 118, 101]⟩, ⟨#[97, 100, 100]⟩, ⟨#[115, 117, 98]⟩, ⟨#[109, 117, 108]⟩, ⟨#[100, 105, 118]⟩, ⟨#[114, 101, 109]⟩, ⟨#[108, 101, 115, 115]⟩, ⟨#[115, 97, 109, 101]⟩, ⟨#[110, 111, 116]⟩, ⟨#[108, 111, 97, 100]⟩, ⟨#[115, 116, 111, 114, 101]⟩, ⟨#[115, 97, 121]⟩, ⟨#[99, 97, 108, 108]⟩, ⟨#[107, 101, 101, 112]⟩, ⟨#[116, 97, 107, 101]⟩, ⟨#[103, 105, 118, 101]⟩, ⟨#[102, 101, 116, 99, 104]⟩, ⟨#[114, 101, 115, 117, 108, 116]⟩, ⟨#[106, 117, 109, 112]⟩, ⟨#[98, 114, 97, 110, 99, 104]⟩, ⟨#[98, 97, 99, 107]⟩]
def wordOf (op : Int) : ByteArray := if opB op then wordL.getD op.toNat ⟨#[]⟩ else ⟨#[]⟩
theorem strs_get (L : List ByteArray) (n : Nat) (hn : n < L.length) : (L.map Value.string).toArray[n]? = some (.string (L.getD n ⟨#[]⟩)) := by
  simp [List.getD, List.getElem?_map, List.getElem?_eq_getElem hn]

set_option maxRecDepth 100000 in
set_option maxHeartbeats 1000000 in
theorem l22Field_any (x : MinsD) (k : Nat) (hk : k < 4) (w : World) :
    Calls Tryd.prog 44 #[.agg #[.int .i64 x.op, .int .i64 x.fa, .int .i64 x.fb, .int .i64 x.fc, .int .i64 x.fn], .int .u8 (letK k)] w fun e w' => e = .returned (.int .i64 (fieldAt x k)) ∧ Below w.heap.size w w' := by
  obtain ⟨op, fa, fb, fc, fn⟩ := x
  have hb0 : Below w.heap.size w (w.alloc (.cells #[.int .i64 op, .int .i64 fa, .int .i64 fb, .int .i64 fc, .int .i64 fn] 41)) := (Below.refl _ _).alloc (Nat.le_refl _) _
  have hr := heap_alloc_new w (.cells #[.int .i64 op, .int .i64 fa, .int .i64 fb, .int .i64 fc, .int .i64 fn] 41)
  have d1 := cell_of_row _ _ 1 _ _ _ hr
  have d2 := cell_of_row _ _ 2 _ _ _ hr
  have d3 := cell_of_row _ _ 3 _ _ _ hr
  have d4 := cell_of_row _ _ 4 _ _ _ hr
  simp only [List.getElem?_toArray, List.getElem?_cons_zero, List.getElem?_cons_succ] at d1 d2 d3 d4
  have HB := Lib.hid hb0
  clear hr hb0
  obtain rfl | rfl | rfl | rfl : k = 0 ∨ k = 1 ∨ k = 2 ∨ k = 3 := by omega
  · show Calls _ _ #[.agg #[.int .i64 op, .int .i64 fa, .int .i64 fb, .int .i64 fc, .int .i64 fn], .int .u8 65] w _
    go_enter Tryd.func44, Tryd.ntmps44
    go_wp2
    go_ret
    exact ⟨rfl, HB.out⟩
  · show Calls _ _ #[.agg #[.int .i64 op, .int .i64 fa, .int .i64 fb, .int .i64 fc, .int .i64 fn], .int .u8 66] w _
    go_enter Tryd.func44, Tryd.ntmps44
    go_wp2
    go_ret
    exact ⟨rfl, HB.out⟩
  · show Calls _ _ #[.agg #[.int .i64 op, .int .i64 fa, .int .i64 fb, .int .i64 fc, .int .i64 fn], .int .u8 67] w _
    go_enter Tryd.func44, Tryd.ntmps44
    go_wp2
    go_ret
    exact ⟨rfl, HB.out⟩
  · show Calls _ _ #[.agg #[.int .i64 op, .int .i64 fa, .int .i64 fb, .int .i64 fc, .int .i64 fn], .int .u8 78] w _
    go_enter Tryd.func44, Tryd.ntmps44
    go_wp2
    go_ret
    exact ⟨rfl, HB.out⟩

set_option maxRecDepth 100000 in
set_option maxHeartbeats 4000000 in
theorem l22Word_any (op : Int) (w : World) :
    Calls Tryd.prog 32 #[.int .i64 op] w fun e w' => ∃ s, e = .returned (.tuple #[.string s, .string (wordOf op)]) ∧ Below w.heap.size w w' := by
  go_enter Tryd.func32, Tryd.ntmps32
  go_upto_region 3 with fail
  have hba : Below w.heap.size w ((w.alloc (.cells (nameL.map Value.string).toArray 9)).alloc (.cells (wordL.map Value.string).toArray 9)) := ((Below.refl _ _).alloc (Nat.le_refl _) _).alloc (by simp) _
  have h1 := heap_alloc2_old w (.cells (nameL.map Value.string).toArray 9) (.cells (wordL.map Value.string).toArray 9)
  have h2 := heap_alloc2_new w (.cells (nameL.map Value.string).toArray 9) (.cells (wordL.map Value.string).toArray 9)
  have hw : (w.alloc (.cells (nameL.map Value.string).toArray 9)).alloc (.cells (wordL.map Value.string).toArray 9) = _ := rfl
  change Code.wp _ _ _ _ ((w.alloc (.cells (nameL.map Value.string).toArray 9)).alloc (.cells (wordL.map Value.string).toArray 9))
  clear hw
  generalize (w.alloc (.cells (nameL.map Value.string).toArray 9)).alloc (.cells (wordL.map Value.string).toArray 9) = W1 at hba h1 h2 ⊢
  have HB := Lib.hid hba
  cases ho : opB op with
  | false =>
    have HO := Lib.hid (show inR 1 op 22 = false from ho)
    have HP := Lib.hid (show wordOf op = ⟨#[]⟩ by rw [wordOf, ho]; rfl)
    clear ho h1 h2 hba
    go_wp2_with fail
    refine (l1InM_is HO.out _).mono ?_
    rintro e w2 ⟨rfl, rfl⟩
    go_wp2
    refine bodyPost_ret (results_tmp2 rfl _ _ _) rfl ?_
    exact ⟨_, by rw [HP.out]; rfl, HB.out⟩
  | true =>
    have HO := Lib.hid (show inR 1 op 22 = true from ho)
    obtain ⟨n, rfl, hn1, hn2⟩ := fm_of ho
    have HOB := Lib.hid ho
    have c1 : W1.cell? ⟨w.heap.size, n, none⟩ = some (.string (nameL.getD n ⟨#[]⟩)) := by rw [cell_of_row _ _ n _ _ _ h1, strs_get _ _ (show n < 23 by omega)]
    have c2 : W1.cell? ⟨w.heap.size + 1, n, none⟩ = some (.string (wordL.getD n ⟨#[]⟩)) := by rw [cell_of_row _ _ n _ _ _ h2, strs_get _ _ (show n < 23 by omega)]
    have hni : (n : Int) < 23 := by omega
    clear ho h1 h2 hba
    generalize nameL.getD n ⟨#[]⟩ = nm at c1
    obtain ⟨wd, hwd⟩ : ∃ wd, wd = wordL.getD n ⟨#[]⟩ := ⟨_, rfl⟩
    rw [← hwd] at c2
    have HP := Lib.hid (show wordOf (n : Int) = wd by rw [hwd, wordOf, HOB.out]; rfl)
    clear hwd
    go_wp2_with fail
    refine (l1InM_is HO.out _).mono ?_
    rintro e w2 ⟨rfl, rfl⟩
    go_wp2_with fail
    go_quiet (fail)
    go_wp2
    refine bodyPost_ret (results_tmp2 rfl _ _ _) rfl ?_
    exact ⟨_, by rw [HP.out]; rfl, below_drewN HB.out _⟩

end Go.Proofs.YtdkafajmhgfkoaaDoor
