/-
  The reference's run of a unit: from its beginning; how many steps it needs, its trace.
-/
import Derived.Test.YtajnldkempeheaaRq6
import Derived.Test.YtajnldkempeheaaUvSpecUnit
import Derived.Deep.RegionHeld3

namespace Go.Proofs.Ytajnldkempeheaa
open Go.RowKit
set_option linter.unusedVariables false
set_option linter.unusedSimpArgs false

def lastParams (us : List CodeD) : Int := (us.map (·.params)).getD (us.length - 1) 0
/-- The unit is valid, and the numbers are what it asks. -/
def fitsB (us : List CodeD) (inp : List Int) : Bool := unitB us && (bytesB inp && ((inp.length : Int) == lastParams us))
theorem byts_of {inp : List Int} (h : bytesB inp = true) : Byts inp := fun v hv => by
  have := List.all_eq_true.1 h v hv
  simp only [inE, Bool.and_eq_true, decide_eq_true_eq] at this
  exact this
theorem last_params {us : List CodeD} {c : CodeD} (h : us[us.length - 1]? = some c) : lastParams us = c.params := by
  unfold lastParams
  rw [List.getD_eq_getElem?_getD, List.getElem?_map, h]; rfl
/-- What is seen of a run when it is over. -/
structure RunEnd (us : List CodeD) (inp : List Int) (st rb : Nat) (w : World) : Prop where
  fin : w.cell? ⟨rb, 2, none⟩ = some (.int .i64 ((runP us inp st).2.fin.getD 0))
  left : w.cell? ⟨rb, 5, none⟩ = some (.int .i64 ((runP us inp st).2.left : Int))
  trace : ∃ ta tc, w.cell? ⟨rb, 7, none⟩ = some (.slice ta (runP us inp st).2.trace.length tc) ∧ IntsRd w ta (runP us inp st).2.trace.length (natI (runP us inp st).2.trace)
/-- The cells of a new run. -/
theorem start_run {w W : World} {ua : Option Addr} {n uc rb cb eb st : Nat} (hw : Below w.heap.size w W) (h1 : W.heap[rb]? = some (.cells #[.slice ua n uc, .slice (some ⟨eb, 0, none⟩) 0 0, .int .i64 0, .int .i64 0, .slice (some ⟨cb, 0, none⟩) 16 16, .int .i64 (st : Int), .bool false, .slice none 0 0] 56 (0, 0)))
    (h2 : W.heap[cb]? = some (.cells #[.int .i64 0, .int .i64 0, .int .i64 0, .int .i64 0, .int .i64 0, .int .i64 0, .int .i64 0, .int .i64 0, .int .i64 0, .int .i64 0, .int .i64 0, .int .i64 0, .int .i64 0, .int .i64 0, .int .i64 0, .int .i64 0] 3 (0, 0))) (h3 : W.heap[eb]? = some (.cells #[] 3 (0, 0)))
    (hlo : w.heap.size ≤ rb ∧ w.heap.size ≤ cb ∧ w.heap.size ≤ eb) (hne : rb ≠ cb ∧ rb ≠ eb ∧ cb ≠ eb) :
    SSt w ua n uc rb cb (fun k => k = rb ∨ k = cb ∨ k = eb) (.slice (some ⟨eb, 0, none⟩) 0 0) (.slice none 0 0) W (startS st) :=
  ⟨h1, ⟨rfl, .inr ⟨eb, 0, #[], rfl, hlo.2.2, h3, Nat.le_refl _, Nat.zero_le _, rfl, rfl⟩⟩, World.ownsRow_nil _ _ _ _,
   own_of_whole (xs := (List.replicate 16 (0 : Int)).map (Value.int .i64)) h2 hlo.2.1 rfl (by decide), hne.1, .inl rfl, .inr (.inl rfl),
   fun k hk => by cases hk; exact ⟨.inr (.inr rfl), fun e => hne.2.1 e.symm, fun e => hne.2.2 e.symm, by simp [Value.ownBlock]⟩, fun k hk => by simp [Value.ownBlock] at hk,
   fun k hk => by rcases hk with rfl | rfl | rfl <;> omega,
   fun k hk => by
    have a := (Array.getElem?_eq_some_iff.1 h1).1
    have b := (Array.getElem?_eq_some_iff.1 h2).1
    have c := (Array.getElem?_eq_some_iff.1 h3).1
    rcases hk with rfl | rfl | rfl <;> omega, hw⟩
theorem SSt.ends {w0 W : World} {ua : Option Addr} {n uc rb cb : Nat} {D : Nat → Prop} {sv tv : Value} {us : List CodeD} {inp : List Int} {st : Nat} (h : SSt w0 ua n uc rb cb D sv tv W (runP us inp st).2) {W' : World} (ht : W' = W ∨ ∃ v, W' = W.setCell ⟨rb, 3, none⟩ v) : RunEnd us inp st rb W' := by
  have key : ∀ W', (∀ i, i ≠ 3 → W'.cell? ⟨rb, i, none⟩ = W.cell? ⟨rb, i, none⟩) → Turned (fun k => k = rb) W W' → RunEnd us inp st rb W' := fun W' hc ht => by
    refine ⟨by rw [hc 2 (by omega), h.cell 2]; rfl, by rw [hc 5 (by omega), h.cell 5]; rfl, ?_⟩
    have hw := own_turned h.trace ht (fun k hk => (h.dt k hk).2.1)
    rcases h.trace.2 with ⟨rfl, h0⟩ | ⟨g, cap, cur, rfl, _⟩
    · exact ⟨none, 0, by rw [hc 7 (by omega), h.cell 7, h0]; rfl, ⟨by simp [natI], rowAt_of_own (h0 ▸ hw)⟩⟩
    · exact ⟨some ⟨g, 0, none⟩, cap, by rw [hc 7 (by omega), h.cell 7]; rfl, ⟨by simp [natI], rowAt_of_own hw⟩⟩
  rcases ht with rfl | ⟨v, rfl⟩
  · exact key _ (fun _ _ => rfl) (Turned.refl _ _)
  · refine key _ (fun i hi => ?_) (turned_store _ _ _ _)
    have hr := heap_setCell_same W rb 3 _ _ v h.row
    rw [cell_of_row _ _ i _ _ _ hr, h.cell i, Array.getElem?_setIfInBounds_ne (fun e => hi e.symm)]

theorem drew3 (w : World) (A B C : Obj) : (((w.alloc A).alloc B).alloc C).drew.heap[w.heap.size]? = some A ∧ (((w.alloc A).alloc B).alloc C).drew.heap[w.heap.size + 1]? = some B ∧ (((w.alloc A).alloc B).alloc C).drew.heap[w.heap.size + 1 + 1]? = some C ∧ Below w.heap.size w (((w.alloc A).alloc B).alloc C).drew := by
  have h := three_blocks w A B C
  exact ⟨h.1.p, h.1.z, h.1.u, h.2.2.drew⟩
section
variable {w : World} {us : List CodeD} {ua : Option Addr} {uc : Nat}
set_option maxRecDepth 100000 in
set_option maxHeartbeats 4000000 in
theorem l8Start_any {inp : List Int} {ia : Option Addr} {ic st : Nat} (hV : UnitV us) (hsz : szS szCodeD us ≤ 1048576) (hU : SliceRd 3 CodeR w ua us.length us) (hp : (inp.length : Int) = lastParams us) (hin : IntsRd w ia inp.length inp) (hby : Byts inp) (hst : st ≤ 60000) :
    Calls Try.prog 19 #[.agg #[.slice ua us.length uc], .slice ia inp.length ic, .int .i64 (st : Int)] w fun e w' => ∃ rb, e = .returned (.pointer (some ⟨rb, 0, none⟩)) ∧ RunEnd us inp st rb w' ∧ Below w.heap.size w w' := by
  have hmk : ∀ w : World, (Instr.makeSlice 26 (.int .i64 16) (.int .i64 16)).run Try.prog w = .ok (.slice (some ⟨w.heap.size, 0, none⟩) 16 16) (w.alloc (.cells #[.int .i64 0, .int .i64 0, .int .i64 0, .int .i64 0, .int .i64 0, .int .i64 0, .int .i64 0, .int .i64 0, .int .i64 0, .int .i64 0, .int .i64 0, .int .i64 0, .int .i64 0, .int .i64 0, .int .i64 0, .int .i64 0] 3)) := fun _ => by kernel_rfl
  have hul := hV.len
  obtain ⟨c, hc⟩ : ∃ c, us[us.length - 1]? = some c := ⟨_, List.getElem?_eq_getElem (by omega)⟩
  rw [last_params hc] at hp
  have hba : Below w.heap.size w (w.alloc (.cells #[.slice ua us.length uc] 25)) := (Below.refl _ _).alloc (Nat.le_refl _) _
  have hu0 : (w.alloc (.cells #[.slice ua us.length uc] 25)).cell? ⟨w.heap.size, 0, none⟩ = some (.slice ua us.length uc) := cell_of_row _ _ 0 _ _ _ (heap_alloc_new w _)
  have HX := Lib.hid (And.intro hV (And.intro hsz (And.intro hU (And.intro hp (And.intro hin (And.intro hby (And.intro hc hst)))))))
  clear hV hsz hU hp hin hby hc
  go_enter Try.func19, Try.ntmps19
  go_upto_region 1 with fail
  have hW1 : (w.alloc (.cells #[.slice ua us.length uc] 25)).heap.size = w.heap.size + 1 := World.size_alloc _ _
  generalize (w.alloc (.cells #[.slice ua us.length uc] 25)) = W1 at hba hu0 hW1 ⊢
  have HB := Lib.hid (And.intro hba hW1)
  clear hW1
  have HK := Lib.hid (fun (A B C : Obj) => show (((W1.alloc A).alloc B).alloc C).drew.cell? ⟨w.heap.size, 0, none⟩ = some (.slice ua us.length uc) from cell_later (((((Below.refl W1.heap.size W1).alloc (Nat.le_refl _) A).alloc (by simp) B).alloc (by simp; omega) C).drew) hu0)
  have HU0 := Lib.hid hu0
  have HFN := Lib.hid (fun (W : World) (eb cb rb : Nat) (hw : Below W1.heap.size W1 W) (h1 : W.heap[rb]? = some (.cells #[.slice ua us.length uc, .slice (some ⟨eb, 0, none⟩) 0 0, .int .i64 0, .int .i64 0, .slice (some ⟨cb, 0, none⟩) 16 16, .int .i64 (st : Int), .bool false, .slice none 0 0] 56 (0, 0)))
    (h2 : W.heap[cb]? = some (.cells #[.int .i64 0, .int .i64 0, .int .i64 0, .int .i64 0, .int .i64 0, .int .i64 0, .int .i64 0, .int .i64 0, .int .i64 0, .int .i64 0, .int .i64 0, .int .i64 0, .int .i64 0, .int .i64 0, .int .i64 0, .int .i64 0] 3 (0, 0))) (h3 : W.heap[eb]? = some (.cells #[] 3 (0, 0))) (hlo : w.heap.size ≤ rb ∧ w.heap.size ≤ cb ∧ w.heap.size ≤ eb) (hne : rb ≠ cb ∧ rb ≠ eb ∧ cb ≠ eb) => start_run (hba.trans (hw.mono hba.size)) h1 h2 h3 hlo hne)
  clear hba
  go_region_held3 (fun W => W.cell? ⟨w.heap.size, 0, none⟩ = some (.slice ua us.length uc)) (first | exact HK.out _ _ _ | go_keep) (fail)
  · have H3 := Lib.hid (drew3 W1 (.cells #[] 3) (.cells #[.int .i64 0, .int .i64 0, .int .i64 0, .int .i64 0, .int .i64 0, .int .i64 0, .int .i64 0, .int .i64 0, .int .i64 0, .int .i64 0, .int .i64 0, .int .i64 0, .int .i64 0, .int .i64 0, .int .i64 0, .int .i64 0] 3) (.cells #[.slice ua us.length uc, .slice (some ⟨W1.heap.size, 0, none⟩) 0 0, .int .i64 0, .int .i64 0, .slice (some ⟨W1.heap.size + 1, 0, none⟩) 16 16, .int .i64 (st : Int), .bool false, .slice none 0 0] 56))
    generalize (((W1.alloc (.cells #[] 3)).alloc (.cells #[.int .i64 0, .int .i64 0, .int .i64 0, .int .i64 0, .int .i64 0, .int .i64 0, .int .i64 0, .int .i64 0, .int .i64 0, .int .i64 0, .int .i64 0, .int .i64 0, .int .i64 0, .int .i64 0, .int .i64 0, .int .i64 0] 3)).alloc (.cells #[.slice ua us.length uc, .slice (some ⟨W1.heap.size, 0, none⟩) 0 0, .int .i64 0, .int .i64 0, .slice (some ⟨W1.heap.size + 1, 0, none⟩) 16 16, .int .i64 (st : Int), .bool false, .slice none 0 0] 56)).drew = W at H3 ⊢
    obtain ⟨rb, hrb⟩ : ∃ b, b = W1.heap.size + 1 + 1 := ⟨_, rfl⟩
    have HS := Lib.hid (HFN.out W (W1.heap.size) (W1.heap.size + 1) rb H3.out.2.2.2 (by rw [hrb]; exact H3.out.2.2.1) H3.out.2.1 H3.out.1 (by have := HB.out.2; omega) (by omega))
    have hu0 := cell_later H3.out.2.2.2 HU0.out
    rw [← hrb]
    have HBW := Lib.hid (HB.out.1.trans (H3.out.2.2.2.mono HB.out.1.size))
    clear HK HFN H3 hrb hmk
    generalize W1.heap.size + 1 = cb at HS
    generalize W1.heap.size = eb at HS
    have HC := Lib.hid (codeS_all (w0 := w) (ua := ua) (uc := uc) (rb := rb) (cb := cb) HX.out.1 HX.out.2.1 HX.out.2.2.1 us.length (us.length - 1) c inp ia ic _ _ _ W (startS st) (by omega) HX.out.2.2.2.2.2.2.1 HX.out.2.2.2.1 (HX.out.2.2.2.2.1.later HBW.out) HX.out.2.2.2.2.2.1 HS.out rfl (start_good hst) (fun _ => by show 0 + st ≤ 60000; omega))
    have hidx : ((us.length : Int) - 1) = ((us.length - 1 : Nat) : Int) := by omega
    have HID := Lib.hid hidx
    clear hidx
    obtain ⟨R, hR⟩ : ∃ R, R = codeRun doD predsC us us.length (us.length - 1) inp (startS st) := ⟨_, rfl⟩
    rw [← hR] at HC
    have HR := Lib.hid (show R = runP us inp st from hR)
    clear hR
    cases hf : R.2.fin with
    | some en =>
      go_wp2_with (go_at_call 36; rw [HID.out]; refine HC.out.mono ?_; rintro e w2 ⟨rfl, D2, sv2, tv2, hS2, hT2⟩; have k6 := hS2.cell 6; simp only [sRow, List.getElem?_toArray, List.getElem?_cons_zero, List.getElem?_cons_succ] at k6; rw [hf] at k6; have HE := Lib.hid (show RunEnd us inp st rb w2 ∧ Below w.heap.size w w2 from ⟨SSt.ends (HR.out ▸ hS2) (.inl rfl), hS2.base⟩); clear hS2 hT2)
      go_ret
      exact ⟨rb, rfl, HE.out⟩
    | none =>
      go_wp2_with (go_at_call 36; rw [HID.out]; refine HC.out.mono ?_; rintro e w2 ⟨rfl, D2, sv2, tv2, hS2, hT2⟩; have k6 := hS2.cell 6; have k3 := hS2.cell 3; have z3 := hS2.free 3; simp only [sRow, List.getElem?_toArray, List.getElem?_cons_zero, List.getElem?_cons_succ] at k6 k3; rw [hf] at k6; have HE := Lib.hid (show RunEnd us inp st rb (w2.setCell ⟨rb, 3, none⟩ (.int .i64 R.1)) ∧ Below w.heap.size w (w2.setCell ⟨rb, 3, none⟩ (.int .i64 R.1)) from ⟨SSt.ends (HR.out ▸ hS2) (.inr ⟨_, rfl⟩), hS2.base.trans ((turned_store w2 rb 3 (.int .i64 R.1)).below hS2.base.size (fun k hk => hk ▸ hS2.lo _ hS2.dr))⟩); clear hS2 hT2)
      go_ret
      exact ⟨rb, rfl, HE.out⟩
  · have H3 := Lib.hid (drew3 W1 (.cells #[.int .i64 0, .int .i64 0, .int .i64 0, .int .i64 0, .int .i64 0, .int .i64 0, .int .i64 0, .int .i64 0, .int .i64 0, .int .i64 0, .int .i64 0, .int .i64 0, .int .i64 0, .int .i64 0, .int .i64 0, .int .i64 0] 3) (.cells #[] 3) (.cells #[.slice ua us.length uc, .slice (some ⟨W1.heap.size + 1, 0, none⟩) 0 0, .int .i64 0, .int .i64 0, .slice (some ⟨W1.heap.size, 0, none⟩) 16 16, .int .i64 (st : Int), .bool false, .slice none 0 0] 56))
    generalize (((W1.alloc (.cells #[.int .i64 0, .int .i64 0, .int .i64 0, .int .i64 0, .int .i64 0, .int .i64 0, .int .i64 0, .int .i64 0, .int .i64 0, .int .i64 0, .int .i64 0, .int .i64 0, .int .i64 0, .int .i64 0, .int .i64 0, .int .i64 0] 3)).alloc (.cells #[] 3)).alloc (.cells #[.slice ua us.length uc, .slice (some ⟨W1.heap.size + 1, 0, none⟩) 0 0, .int .i64 0, .int .i64 0, .slice (some ⟨W1.heap.size, 0, none⟩) 16 16, .int .i64 (st : Int), .bool false, .slice none 0 0] 56)).drew = W at H3 ⊢
    obtain ⟨rb, hrb⟩ : ∃ b, b = W1.heap.size + 1 + 1 := ⟨_, rfl⟩
    have HS := Lib.hid (HFN.out W (W1.heap.size + 1) (W1.heap.size) rb H3.out.2.2.2 (by rw [hrb]; exact H3.out.2.2.1) H3.out.1 H3.out.2.1 (by have := HB.out.2; omega) (by omega))
    have hu0 := cell_later H3.out.2.2.2 HU0.out
    rw [← hrb]
    have HBW := Lib.hid (HB.out.1.trans (H3.out.2.2.2.mono HB.out.1.size))
    clear HK HFN H3 hrb hmk
    generalize W1.heap.size + 1 = eb at HS
    generalize W1.heap.size = cb at HS
    have HC := Lib.hid (codeS_all (w0 := w) (ua := ua) (uc := uc) (rb := rb) (cb := cb) HX.out.1 HX.out.2.1 HX.out.2.2.1 us.length (us.length - 1) c inp ia ic _ _ _ W (startS st) (by omega) HX.out.2.2.2.2.2.2.1 HX.out.2.2.2.1 (HX.out.2.2.2.2.1.later HBW.out) HX.out.2.2.2.2.2.1 HS.out rfl (start_good hst) (fun _ => by show 0 + st ≤ 60000; omega))
    have hidx : ((us.length : Int) - 1) = ((us.length - 1 : Nat) : Int) := by omega
    have HID := Lib.hid hidx
    clear hidx
    obtain ⟨R, hR⟩ : ∃ R, R = codeRun doD predsC us us.length (us.length - 1) inp (startS st) := ⟨_, rfl⟩
    rw [← hR] at HC
    have HR := Lib.hid (show R = runP us inp st from hR)
    clear hR
    cases hf : R.2.fin with
    | some en =>
      go_wp2_with (go_at_call 36; rw [HID.out]; refine HC.out.mono ?_; rintro e w2 ⟨rfl, D2, sv2, tv2, hS2, hT2⟩; have k6 := hS2.cell 6; simp only [sRow, List.getElem?_toArray, List.getElem?_cons_zero, List.getElem?_cons_succ] at k6; rw [hf] at k6; have HE := Lib.hid (show RunEnd us inp st rb w2 ∧ Below w.heap.size w w2 from ⟨SSt.ends (HR.out ▸ hS2) (.inl rfl), hS2.base⟩); clear hS2 hT2)
      go_ret
      exact ⟨rb, rfl, HE.out⟩
    | none =>
      go_wp2_with (go_at_call 36; rw [HID.out]; refine HC.out.mono ?_; rintro e w2 ⟨rfl, D2, sv2, tv2, hS2, hT2⟩; have k6 := hS2.cell 6; have k3 := hS2.cell 3; have z3 := hS2.free 3; simp only [sRow, List.getElem?_toArray, List.getElem?_cons_zero, List.getElem?_cons_succ] at k6 k3; rw [hf] at k6; have HE := Lib.hid (show RunEnd us inp st rb (w2.setCell ⟨rb, 3, none⟩ (.int .i64 R.1)) ∧ Below w.heap.size w (w2.setCell ⟨rb, 3, none⟩ (.int .i64 R.1)) from ⟨SSt.ends (HR.out ▸ hS2) (.inr ⟨_, rfl⟩), hS2.base.trans ((turned_store w2 rb 3 (.int .i64 R.1)).below hS2.base.size (fun k hk => hk ▸ hS2.lo _ hS2.dr))⟩); clear hS2 hT2)
      go_ret
      exact ⟨rb, rfl, HE.out⟩
set_option maxRecDepth 100000 in
set_option maxHeartbeats 4000000 in
theorem l8Fits_any {inp : List Int} {ia : Option Addr} {ic : Nat} (hsz : szS szCodeD us ≤ 1048576) (hU : SliceRd 3 CodeR w ua us.length us) (hin : IntsRd w ia inp.length inp) (hil : inp.length ≤ 1048576) :
    Calls Try.prog 17 #[.agg #[.slice ua us.length uc], .slice ia inp.length ic] w fun e w' => e = .returned (.bool (fitsB us inp)) ∧ Below w.heap.size w w' := by
  have hba : Below w.heap.size w (w.alloc (.cells #[.slice ua us.length uc] 25)) := (Below.refl _ _).alloc (Nat.le_refl _) _
  have hrow := heap_alloc_new w (.cells #[.slice ua us.length uc] 25)
  have HUV := Lib.hid (specUnitValid_any us ua uc hsz _ (hU.later codeR_lasts hba))
  have HB := Lib.hid (And.intro hba hrow)
  cases hu : unitB us with
  | false =>
    rw [hu] at HUV
    have HF := Lib.hid (show fitsB us inp = false by rw [fitsB, hu]; rfl)
    clear hba hrow hu hin hU hsz
    go_enter Try.func17, Try.ntmps17
    go_wp2_with fail
    refine HUV.out.mono ?_
    rintro e w1 ⟨rfl, hb1⟩
    have HE := Lib.hid (HB.out.1.trans (hb1.mono HB.out.1.size))
    clear hb1
    go_wp2
    go_ret
    exact ⟨ret_bool HF.out.symm, HE.out⟩
  | true =>
    rw [hu] at HUV
    have hV := unitV_of hu
    have hul := hV.len
    obtain ⟨c, hc⟩ : ∃ c, us[us.length - 1]? = some c := ⟨_, List.getElem?_eq_getElem (by omega)⟩
    obtain ⟨ub, uo, params, rgs, blocks, ba, bc, hua, hk2, c0, -, -, -⟩ := code_place hU (i := us.length - 1) (by omega)
    subst hua
    rw [hc] at hk2
    cases hk2
    have hidx : ((us.length : Int) - 1) = ((us.length - 1 : Nat) : Int) := by omega
    have hcp := (hV.code _ _ hc).params
    simp only at hcp
    have HIN := Lib.hid (hin.later hba)
    have hlp := last_params hc
    simp only at hlp
    cases hby : bytesB inp with
    | false =>
      have HF := Lib.hid (show fitsB us inp = false by rw [fitsB, hu, hby]; rfl)
      clear hba hrow hu hin hU hsz hV hc c0 hlp hidx
      go_enter Try.func17, Try.ntmps17
      go_wp2_with fail
      refine HUV.out.mono ?_
      rintro e w1 ⟨rfl, hb1⟩
      have HE := Lib.hid (HB.out.1.trans (hb1.mono HB.out.1.size))
      have HL := Lib.hid (l5Values_any ia inp.length ic inp w1 (HIN.out.later hb1) (by omega))
      rw [hby] at HL
      clear hb1 hby
      go_wp2_with fail
      refine HL.out.mono ?_
      rintro e w2 ⟨rfl, hb2⟩
      subst hb2
      go_wp2
      go_ret
      exact ⟨ret_bool HF.out.symm, HE.out⟩
    | true =>
      obtain ⟨q, hq⟩ : ∃ q, q = us.length - 1 := ⟨_, rfl⟩
      rw [← hq] at c0 hidx
      have hqi : (q : Int) < (us.length : Int) := by omega
      have HF := Lib.hid (show fitsB us inp = ((inp.length : Int) == params) by rw [fitsB, hu, hby, hlp]; rfl)
      have hb0 := cell_of_row _ _ 0 _ _ _ HB.out.2
      have HC := Lib.hid (cell_later hba c0)
      clear hba hrow hu hin hU hsz hV hc c0 hlp hq
      go_enter Try.func17, Try.ntmps17
      go_wp2_with fail
      refine HUV.out.mono ?_
      rintro e w1 ⟨rfl, hb1⟩
      have HE := Lib.hid (HB.out.1.trans (hb1.mono HB.out.1.size))
      have HL := Lib.hid (l5Values_any ia inp.length ic inp w1 (HIN.out.later hb1) (by omega))
      rw [hby] at HL
      have hb0 := cell_later hb1 hb0
      have hc0 := cell_later hb1 HC.out
      clear hb1 hby
      go_wp2_with fail
      refine HL.out.mono ?_
      rintro e w2 ⟨rfl, hb2⟩
      subst hb2
      go_wp2
      go_ret
      exact ⟨ret_bool HF.out.symm, HE.out⟩
/-- How many steps are needed. -/
def stepsP (us : List CodeD) (inp : List Int) : Int := if fitsB us inp = true then (if (runP us inp 60000).2.fin = some 3 then -1 else 60000 - ((runP us inp 60000).2.left : Int)) else -1
/-- The trace of a run. -/
def traceP (us : List CodeD) (inp : List Int) (st : Int) : List Int := if fitsB us inp && inE 0 st 60000 then natI (runP us inp st.toNat).2.trace else []
theorem fits_last {us : List CodeD} {inp : List Int} (h : fitsB us inp = true) : UnitV us ∧ (inp.length : Int) = lastParams us ∧ Byts inp := by
  rw [fitsB, Bool.and_eq_true, Bool.and_eq_true, beq_iff_eq] at h
  exact ⟨unitV_of h.1, h.2.2, byts_of h.2.1⟩
set_option maxRecDepth 100000 in
set_option maxHeartbeats 4000000 in
theorem stepsOfS_any {inp : List Int} {ia : Option Addr} {ic : Nat} (hsz : szS szCodeD us ≤ 1048576) (hU : SliceRd 3 CodeR w ua us.length us) (hin : IntsRd w ia inp.length inp) (hil : inp.length ≤ 1048576) :
    Calls Try.prog 12 #[.agg #[.slice ua us.length uc], .slice ia inp.length ic] w fun e w' => e = .returned (.int .i64 (stepsP us inp)) ∧ Below w.heap.size w w' := by
  have hba : Below w.heap.size w (w.alloc (.cells #[.slice ua us.length uc] 25)) := (Below.refl _ _).alloc (Nat.le_refl _) _
  have hrow := heap_alloc_new w (.cells #[.slice ua us.length uc] 25)
  have HUF := Lib.hid (l8Fits_any (uc := uc) (ic := ic) hsz (hU.later codeR_lasts hba) (hin.later hba) hil)
  have HB := Lib.hid (And.intro hba hrow)
  have HU := Lib.hid (And.intro hsz (And.intro hU hin))
  clear hba hrow hU hin hsz
  cases hu : fitsB us inp with
  | false =>
    rw [hu] at HUF
    have HF := Lib.hid (show stepsP us inp = -1 by rw [stepsP, hu]; rfl)
    clear hu
    go_enter Try.func12, Try.ntmps12
    go_wp2_with fail
    refine HUF.out.mono ?_
    rintro e w1 ⟨rfl, hb1⟩
    have HE := Lib.hid (HB.out.1.trans (hb1.mono HB.out.1.size))
    clear hb1
    go_wp2
    go_ret
    exact ⟨ret_int HF.out.symm, HE.out⟩
  | true =>
    rw [hu] at HUF
    have HFT := Lib.hid (fits_last hu)
    have HF := Lib.hid (show stepsP us inp = if (runP us inp 60000).2.fin = some 3 then -1 else 60000 - ((runP us inp 60000).2.left : Int) by rw [stepsP, if_pos hu])
    have HLL := Lib.hid (show (runP us inp 60000).2.left ≤ 60000 from (grow_code us us.length (us.length - 1) inp (startS 60000)).left)
    clear hu
    have hb0 := cell_of_row _ _ 0 _ _ _ HB.out.2
    go_enter Try.func12, Try.ntmps12
    go_wp2_with fail
    refine HUF.out.mono ?_
    rintro e w1 ⟨rfl, hb1⟩
    have hb0 := cell_later hb1 hb0
    have hw1 := HB.out.1.trans (hb1.mono HB.out.1.size)
    have HST := Lib.hid (l8Start_any (uc := uc) (ic := ic) (st := 60000) HFT.out.1 HU.out.1 (HU.out.2.1.later codeR_lasts hw1) HFT.out.2.1 (HU.out.2.2.later hw1) HFT.out.2.2 (Nat.le_refl _))
    have HW1 := Lib.hid hw1
    clear hb1 hw1
    go_wp2_with fail
    refine HST.out.mono ?_
    rintro e w2 ⟨rb, rfl, hE, hb2⟩
    have r2 := hE.fin
    have r5 := hE.left
    have HE := Lib.hid (HW1.out.trans (hb2.mono HW1.out.size))
    clear hE hb2 hb0
    generalize (runP us inp 60000).2.left = L at r5 HF HLL
    have hL := HLL.out
    generalize (runP us inp 60000).2.fin = x at r2 HF
    by_cases hx : x = some 3
    · subst hx
      go_wp2
      go_ret
      exact ⟨ret_int (by rw [HF.out]; simp), HE.out⟩
    · have hx3 : (x.getD 0 == 3) = false := by
        cases x with
        | none => rfl
        | some e => exact beq_eq_false_iff_ne.2 (fun h => hx (by rw [show e = 3 from h]))
      have HXX := Lib.hid hx
      clear hx
      generalize x.getD 0 = xx at r2 hx3
      go_wp2
      go_ret
      exact ⟨ret_int (by rw [HF.out, if_neg HXX.out]), HE.out⟩
set_option maxRecDepth 100000 in
set_option maxHeartbeats 4000000 in
theorem traceOfS_any {inp : List Int} {ia : Option Addr} {ic : Nat} (st : Int) (hsz : szS szCodeD us ≤ 1048576) (hU : SliceRd 3 CodeR w ua us.length us) (hin : IntsRd w ia inp.length inp) (hil : inp.length ≤ 1048576) :
    Calls Try.prog 8 #[.agg #[.slice ua us.length uc], .slice ia inp.length ic, .int .i64 st] w fun e w' => ∃ a c, e = .returned (.slice a (traceP us inp st).length c) ∧ IntsRd w' a (traceP us inp st).length (traceP us inp st) ∧ Below w.heap.size w w' := by
  have hba : Below w.heap.size w (w.alloc (.cells #[.slice ua us.length uc] 25)) := (Below.refl _ _).alloc (Nat.le_refl _) _
  have hrow := heap_alloc_new w (.cells #[.slice ua us.length uc] 25)
  have HUF := Lib.hid (l8Fits_any (uc := uc) (ic := ic) hsz (hU.later codeR_lasts hba) (hin.later hba) hil)
  have HB := Lib.hid (And.intro hba hrow)
  have HU := Lib.hid (And.intro hsz (And.intro hU hin))
  clear hba hrow hU hin hsz
  obtain ⟨T, hT⟩ : ∃ T, T = traceP us inp st := ⟨_, rfl⟩
  rw [← hT]
  have HT := Lib.hid hT
  clear hT
  cases hu : fitsB us inp with
  | false =>
    rw [hu] at HUF
    have HF := Lib.hid (show T = [] by rw [HT.out, traceP, hu]; rfl)
    clear hu
    go_enter Try.func8, Try.ntmps8
    go_wp2_with fail
    refine HUF.out.mono ?_
    rintro e w1 ⟨rfl, hb1⟩
    have HE := Lib.hid (HB.out.1.trans (hb1.mono HB.out.1.size))
    clear hb1
    go_wp2
    go_ret
    exact ⟨_, _, by rw [HF.out]; rfl, by rw [HF.out]; exact ⟨rfl, .inl rfl⟩, HE.out.alloc HE.out.size _⟩
  | true =>
    rw [hu] at HUF
    cases hst : inE 0 st 60000 with
    | false =>
      have HF := Lib.hid (show T = [] by rw [HT.out, traceP, hu, hst]; rfl)
      clear hu
      go_enter Try.func8, Try.ntmps8
      go_wp2_with fail
      refine HUF.out.mono ?_
      rintro e w1 ⟨rfl, hb1⟩
      have HE := Lib.hid (HB.out.1.trans (hb1.mono HB.out.1.size))
      clear hb1
      go_wp2_with fail
      refine (l1InE_is hst _).mono ?_
      rintro e w2 ⟨rfl, hw2⟩
      subst hw2
      clear hst
      go_wp2
      go_ret
      exact ⟨_, _, by rw [HF.out]; rfl, by rw [HF.out]; exact ⟨rfl, .inl rfl⟩, HE.out.alloc HE.out.size _⟩
    | true =>
      have hst2 := in_of hst
      obtain ⟨sn, rfl⟩ : ∃ n : Nat, st = (n : Int) := ⟨st.toNat, by omega⟩
      have HF := Lib.hid (show T = natI (runP us inp sn).2.trace by rw [HT.out, traceP, hu, hst]; rfl)
      have HFT := Lib.hid (fits_last hu)
      have hb0 := cell_of_row _ _ 0 _ _ _ HB.out.2
      clear hu
      go_enter Try.func8, Try.ntmps8
      go_wp2_with fail
      refine HUF.out.mono ?_
      rintro e w1 ⟨rfl, hb1⟩
      have hb0 := cell_later hb1 hb0
      have hw1 := HB.out.1.trans (hb1.mono HB.out.1.size)
      have HST := Lib.hid (l8Start_any (uc := uc) (ic := ic) (st := sn) HFT.out.1 HU.out.1 (HU.out.2.1.later codeR_lasts hw1) HFT.out.2.1 (HU.out.2.2.later hw1) HFT.out.2.2 (by omega))
      have HW1 := Lib.hid hw1
      clear hb1 hw1
      go_wp2_with fail
      refine (l1InE_is hst _).mono ?_
      rintro e w2 ⟨rfl, hw2⟩
      subst hw2
      clear hst
      go_wp2_with fail
      refine HST.out.mono ?_
      rintro e w3 ⟨rb, rfl, hE, hb2⟩
      obtain ⟨ta, tc, r7, hrd⟩ := hE.trace
      have HE := Lib.hid (And.intro hrd (HW1.out.trans (hb2.mono HW1.out.size)))
      clear hE hb2 hb0 hrd
      have HLN := Lib.hid (show (runP us inp sn).2.trace.length = T.length by rw [HF.out, natI, List.length_map])
      rw [HLN.out] at r7
      go_wp2
      go_ret
      exact ⟨ta, tc, rfl, by rw [← HLN.out, HF.out]; exact HE.out.1, HE.out.2⟩
end

end Go.Proofs.Ytajnldkempeheaa
