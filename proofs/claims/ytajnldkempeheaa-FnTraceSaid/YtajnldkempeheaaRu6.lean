/-
  The library's slices.Clone over ints: the walk.
-/
import Derived.Test.YtajnldkempeheaaBase
import Derived.Test.YtajnldkempeheaaRu5
import Derived.Test.YtajnldkempeheaaRq7
import Derived.Defers
import Derived.Recover
import Derived.Tactics2
import Derived.Laws.Pointers

namespace Go.Proofs.Ytajnldkempeheaa
open Go.RowKit

set_option maxHeartbeats 400000 in
/-- Clone of a slice that is not nil. -/
theorem clone_some (ad : Addr) (len cap : Nat) (xs : List Int) (w : World) (hin : IntsRd w (some ad) len xs) (hs : len ≤ 1099511627776) :
    Calls Try.prog 33 #[.slice (some ad) len cap] w fun e w' => RetInts w xs len e w' := by
  have hnn := @Lib.run_eql_slice_nil Try.prog
  go_enter Try.func33, Try.ntmps33
  go_wp2_with (at_builtin; refine app_ints rfl (.tmp 5) (.tmp 6) rfl w.heap.size _ 0 [] rfl (own_empty _ _ _ _ (Nat.le_refl _)) _ len _ xs rfl hin.length (hin.row.later ((Below.refl _ _).alloc (Nat.le_refl _) _)) (by rintro ⟨⟩) (by omega) (by simp) ?_; intro a1 c1 w1 hown hgrow hlies)
  have hb1 : Below w.heap.size w w1 := ((Below.refl _ _).alloc (Nat.le_refl _) _).grown hgrow (by simp) (fun j hj => ((own_empty w w.heap.size 3 1 (Nat.le_refl _)).lt j hj).1)
  simp only [Nat.zero_add, List.nil_append] at hown
  clear hgrow hlies
  go_wp2
  go_ret
  exact ⟨_, _, rfl, hown, hb1⟩
theorem clone_any (b off : Nat) (len cap : Nat) (xs : List Int) (w : World) (hin : IntsRd w (some ⟨b, off, none⟩) len xs) (hs : len ≤ 1099511627776) :
    Calls Try.prog 33 #[.slice (some ⟨b, off, none⟩) len cap] w fun e w' => RetInts w xs len e w' := clone_some _ len cap xs w hin hs
end Go.Proofs.Ytajnldkempeheaa

/-
  The program's run of a unit: the run is caught.
-/
namespace Go.Proofs.Ytajnldkempeheaa
open Go.RowKit
set_option linter.unusedVariables false
set_option linter.unusedSimpArgs false

theorem assert_end (n : Int) (w : World) : (Instr.typeAssert (.iface 88 (.int .i64 n)) 20 88 true).run Try.prog w = .ok (.tuple #[.int .i64 n, .bool true]) w := by kernel_rfl
set_option maxRecDepth 100000 in
set_option maxHeartbeats 1000000 in
theorem catch_panicking (pb : Nat) (x en : Int) (older : List PanicEntry) (w : World) (hc : w.cell? ⟨pb, 0, none⟩ = some (.int .i64 x)) (hz : w.frozen? ⟨pb, 0, none⟩ = false) :
    CallsD Try.prog 45 #[.pointer (some ⟨pb, 0, none⟩)] (.panicking ({ v := .iface 88 (.int .i64 en), recovered := false } :: older)) w fun e u' w' =>
      e = .returned (.tuple #[]) ∧ u' = .panicking ({ v := .iface 88 (.int .i64 en), recovered := true } :: older) ∧ w' = w.setCell ⟨pb, 0, none⟩ (.int .i64 en) := by
  refine callsD_of_wpS Try.func45 rfl fun c₀ cs hu => ?_
  apply wpS_seq
  apply wpS_region
  simp [wpOpsS, go_sem, recoverD, hu, Try.ntmps45, Exit.thenS]
  refine wpS_of_wp ?_
  refine Code.wp_mono (Q := fun e a' w' => e = .normal ∧ a'.defers = [] ∧ w' = w.setCell ⟨pb, 0, none⟩ (.int .i64 en)) ?_ ?_
  · rintro e a' w' ⟨rfl, hd, rfl⟩
    exact ⟨hd, _, rfl, .tuple #[], by simp [results, Try.results45], rfl, rfl, rfl⟩
  · clear hu
    simp only [Array.replicate_succ, Array.replicate_zero, List.push_toArray, List.append_toArray, List.nil_append, List.cons_append, List.setIfInBounds_toArray, List.set_cons_succ, List.set_cons_zero]
    have hta := fun W => assert_end en W
    go_wp2
set_option maxRecDepth 100000 in
set_option maxHeartbeats 1000000 in
theorem catch_idle (pb : Nat) (w : World) :
    CallsD Try.prog 45 #[.pointer (some ⟨pb, 0, none⟩)] .returning w fun e u' w' => e = .returned (.tuple #[]) ∧ u' = .returning ∧ w' = w := by
  refine callsD_of_wpS Try.func45 rfl fun c₀ cs hu => ?_
  apply wpS_seq
  apply wpS_region
  simp [wpOpsS, go_sem, recoverD, hu, Try.ntmps45, Exit.thenS]
  refine wpS_of_wp ?_
  refine Code.wp_mono (Q := fun e a' w' => e = .normal ∧ a'.defers = [] ∧ w' = w) ?_ ?_
  · rintro e a' w' ⟨rfl, hd, rfl⟩
    exact ⟨hd, _, by cases c₀; simp_all, .tuple #[], by simp [results, Try.results45], rfl, hu, rfl⟩
  · clear hu
    simp only [Array.replicate_succ, Array.replicate_zero, List.push_toArray, List.append_toArray, List.nil_append, List.cons_append, List.setIfInBounds_toArray, List.set_cons_succ, List.set_cons_zero]
    go_wp2
def oRow (en v : Int) : Array Value := #[.slice none 0 0, .int .i64 en, .int .i64 v, .slice none 0 0]
/-- The value of a run: 0 where it was stopped. -/
def valOf (r : Int × RunS) : Int := match r.2.fin with
  | none => r.1
  | some _ => 0
/-- What a run leaves: behind it, as D' and its slices are. -/
def RunPost (w0 : World) (ua : Option Addr) (n uc rb N ob : Nat) (D : Nat → Prop) (w : World) (r : Int × RunS) (w' : World) : Prop :=
  ∃ D' sv' tv', MSt w0 ua n uc rb N D' sv' tv' w' r.2 ∧ Step (fun k => D k ∨ k = ob) w (fun k => D' k ∨ k = ob) w' ∧ ¬ D' ob ∧ w'.heap[ob]? = some (.cells (oRow 0 (valOf r)) 32 (0, 0))
section
variable {w0 w : World} {us : List CodeD} {ua : Option Addr} {uc rb N mpb ub ib ob : Nat} {D : Nat → Prop} {sv tv : Value} {inp : List Int} {ia : Option Addr} {ic : Nat}
set_option maxRecDepth 100000 in
set_option maxHeartbeats 2000000 in
theorem runU1_any (hV : UnitV us) (hsz : szS szCodeD us ≤ 1048576) (hU : SliceRd 3 CodeR w0 ua us.length us) (hN : N ≤ 60000) (hp : (inp.length : Int) = lastParams us) (hin : IntsRd w ia inp.length inp) (hby : Byts inp)
    (h : MSt w0 ua us.length uc rb N D sv tv w (startS N)) (hm : w.cell? ⟨mpb, 0, none⟩ = some (.pointer (some ⟨rb, 0, none⟩))) (hu : w.cell? ⟨ub, 0, none⟩ = some (.slice ua us.length uc)) (hi : w.cell? ⟨ib, 0, none⟩ = some (.slice ia inp.length ic))
    (ho : w.heap[ob]? = some (.cells (oRow 0 0) 32 (0, 0))) (hno : ¬ D ob) (hol : w0.heap.size ≤ ob) :
    Calls Try.prog 31 #[.pointer (some ⟨mpb, 0, none⟩), .pointer (some ⟨ub, 0, none⟩), .pointer (some ⟨ib, 0, none⟩), .pointer (some ⟨ob, 0, none⟩)] w fun e w' =>
      e = outE (runP us inp N).2.fin (.tuple #[]) ∧ RunPost w0 ua us.length uc rb N ob D w (runP us inp N) w' := by
  have hul := hV.len
  obtain ⟨c, hc⟩ : ∃ c, us[us.length - 1]? = some c := ⟨_, List.getElem?_eq_getElem (by omega)⟩
  rw [last_params hc] at hp
  have HC := Lib.hid (codeI_all (w0 := w0) (ua := ua) (uc := uc) (rb := rb) hV hsz hU hN us.length (us.length - 1) c inp ia ic _ _ _ w (startS N) true (by omega) hc hp hin hby h rfl (start_good hN) (by symm; simp; omega) (fun _ => by show 0 + N ≤ 60000; omega))
  obtain ⟨R, hR⟩ : ∃ R, R = runP us inp N := ⟨_, rfl⟩
  change Hid (Calls _ _ _ _ fun e w' => e = outE (runP us inp N).2.fin (.int .i64 (runP us inp N).1) ∧ ∃ D' sv' tv', MSt w0 ua us.length uc rb N D' sv' tv' w' (runP us inp N).2 ∧ Step D w D' w') at HC
  rw [← hR] at HC ⊢
  have hidx : ((us.length : Int) - 1) = ((us.length - 1 : Nat) : Int) := by omega
  have HID := Lib.hid hidx
  have HO := Lib.hid (And.intro ho (And.intro hno hol))
  clear hV hsz hU hp hin hby h hc hR hidx ho hno hol
  go_enter Try.func31, Try.ntmps31
  cases hfR : R.2.fin with
  | some en =>
    rw [hfR] at HC
    have HF := Lib.hid hfR
    clear hfR
    go_wp2_with fail
    rw [HID.out]
    refine HC.out.mono ?_
    rintro e w2 ⟨he, D2, sv2, tv2, hS2, hT2⟩
    obtain rfl : e = endPanic en := he
    have hol2 := (Array.getElem?_eq_some_iff.1 HO.out.1).1
    exact ⟨rfl, rfl, D2, sv2, tv2, hS2, hT2.plus, hT2.out hol2 HO.out.2.1, by rw [hT2.block HO.out.1 HO.out.2.1, valOf, HF.out]⟩
  | none =>
    rw [hfR] at HC
    have HF := Lib.hid hfR
    clear hfR
    go_wp2_with (go_at_call 32; rw [HID.out]; refine HC.out.mono ?_; rintro e w2 ⟨he, D2, sv2, tv2, hS2, hT2⟩; obtain rfl : e = .returned (.int .i64 R.1) := he; have ho2 := hT2.block HO.out.1 HO.out.2.1; have o2 := cell_of_row _ _ 2 _ _ _ ho2; have z2 := frozen_of_row _ _ 2 _ _ ho2; simp only [oRow, List.getElem?_toArray, List.getElem?_cons_zero, List.getElem?_cons_succ] at o2; have HE := Lib.hid (And.intro hS2 (And.intro hT2 ho2)); clear hS2 hT2 ho2)
    go_end0
    refine ⟨rfl, D2, sv2, tv2, HE.out.1.stay (turned_store w2 ob 2 (.int .i64 R.1)) (fun k hk => by subst hk; exact ⟨HE.out.2.1.out (Array.getElem?_eq_some_iff.1 HO.out.1).1 HO.out.2.1, HO.out.2.2⟩), HE.out.2.1.plus.trans ⟨(turned_store w2 ob 2 (.int .i64 R.1)).mono (fun k hk => .inr hk), fun _ _ h => h⟩, HE.out.2.1.out (Array.getElem?_eq_some_iff.1 HO.out.1).1 HO.out.2.1, ?_⟩
    rw [heap_setCell_same w2 ob 2 _ _ _ HE.out.2.2, valOf, HF.out]
    rfl
set_option maxRecDepth 100000 in
set_option maxHeartbeats 2000000 in
/-- The run is caught. -/
theorem caughtU_any (hV : UnitV us) (hsz : szS szCodeD us ≤ 1048576) (hU : SliceRd 3 CodeR w0 ua us.length us) (hN : N ≤ 60000) (hp : (inp.length : Int) = lastParams us) (hin : IntsRd w ia inp.length inp) (hby : Byts inp)
    (h : MSt w0 ua us.length uc rb N D sv tv w (startS N)) (hm : w.cell? ⟨mpb, 0, none⟩ = some (.pointer (some ⟨rb, 0, none⟩))) (hu : w.cell? ⟨ub, 0, none⟩ = some (.slice ua us.length uc)) (hi : w.cell? ⟨ib, 0, none⟩ = some (.slice ia inp.length ic))
    (ho : w.heap[ob]? = some (.cells (oRow 0 0) 32 (0, 0))) (hno : ¬ D ob) (hol : w0.heap.size ≤ ob) :
    Calls Try.prog 30 #[.func (.func 31) #[] #[.pointer (some ⟨mpb, 0, none⟩), .pointer (some ⟨ub, 0, none⟩), .pointer (some ⟨ib, 0, none⟩), .pointer (some ⟨ob, 0, none⟩)]] w fun e w' =>
      e = .returned (.int .i64 ((runP us inp N).2.fin.getD 0)) ∧ RunPost w0 ua us.length uc rb N ob D w (runP us inp N) w' := by
  have hmf : ∀ (fn : Fn) (first cap : Array Value) (w : World), (Instr.makeFunc fn first cap).run Try.prog w = .ok (.func fn first cap) w := fun _ _ _ _ => rfl
  have hen : ∀ W, (callFunc 31 #[.pointer (some ⟨mpb, 0, none⟩), .pointer (some ⟨ub, 0, none⟩), .pointer (some ⟨ib, 0, none⟩), .pointer (some ⟨ob, 0, none⟩)]).run Try.prog W = .ok (.enter 31 #[.pointer (some ⟨mpb, 0, none⟩), .pointer (some ⟨ub, 0, none⟩), .pointer (some ⟨ib, 0, none⟩), .pointer (some ⟨ob, 0, none⟩)]) W := fun W => by kernel_rfl
  have hba : Below w.heap.size w (w.alloc (.cells #[.int .i64 0] 3)) := (Below.refl _ _).alloc (Nat.le_refl _) _
  have hrow := heap_alloc_new w (.cells #[.int .i64 0] 3)
  have holt := (Array.getElem?_eq_some_iff.1 ho).1
  have HR := Lib.hid (runU1_any (ic := ic) hV hsz hU hN hp (hin.later hba) hby (h.later hba) (cell_later hba hm) (cell_later hba hu) (cell_later hba hi) ((hba.block ob holt).trans ho) hno hol)
  have hq : ¬ (D w.heap.size ∨ w.heap.size = ob) := fun hd => hd.elim (fun h2 => Nat.lt_irrefl _ (h.hi _ h2)) (fun e => by omega)
  have HB := Lib.hid (And.intro hba (And.intro hrow (And.intro hq h.base.size)))
  obtain ⟨R, hR⟩ : ∃ R, R = runP us inp N := ⟨_, rfl⟩
  rw [← hR] at HR ⊢
  clear hba hrow h hin hV hsz hU hp hby hm hu hi ho hno hol hq hR holt
  go_enter_defers Try.func30, Try.ntmps30
  go_wp2_with fail
  generalize w.alloc (.cells #[.int .i64 0] 3) = W1 at HR HB ⊢
  obtain ⟨q, hq⟩ : ∃ q, q = w.heap.size := ⟨_, rfl⟩
  rw [← hq] at HB ⊢
  have HQ := Lib.hid hq
  clear hq
  refine HR.out.mono ?_
  rintro e w2 ⟨he, D2, sv2, tv2, hS2, hT2, hno2, hO2⟩
  have hr2 := hT2.block HB.out.2.1 HB.out.2.2.1
  have hnq := hT2.out (Array.getElem?_eq_some_iff.1 HB.out.2.1).1 HB.out.2.2.1
  have k0 := cell_of_row _ _ 0 _ _ _ hr2
  have z0 := frozen_of_row _ _ 0 _ _ hr2
  simp only [List.getElem?_toArray, List.getElem?_cons_zero] at k0
  have HE := Lib.hid (fun (n : Int) => show (w2.setCell ⟨q, 0, none⟩ (.int .i64 n)).cell? ⟨q, 0, none⟩ = some (.int .i64 n) ∧ RunPost w0 ua us.length uc rb N ob D w R (w2.setCell ⟨q, 0, none⟩ (.int .i64 n)) from by
    have hts := turned_store w2 q 0 (.int .i64 n)
    have hb1 : Below w.heap.size w W1 := by have := HB.out.1; rwa [HQ.out] at this
    have hqs := HB.out.2.2.2
    have hql : w0.heap.size ≤ q := by have := HQ.out; omega
    have hr3 := heap_setCell_same w2 q 0 _ _ (.int .i64 n) hr2
    refine ⟨by rw [cell_of_row _ _ 0 _ _ _ hr3]; rfl, D2, sv2, tv2, hS2.stay hts (fun k hk => by subst hk; exact ⟨fun hd => hnq (.inl hd), hql⟩), ⟨⟨hts.os.trans (hT2.turned.os.trans hb1.os), hts.tape.trans (hT2.turned.tape.trans hb1.tape), hts.output.trans (hT2.turned.output.trans hb1.output), Nat.le_trans hb1.size (Nat.le_trans hT2.turned.size hts.size), fun k hk hs => (hts.block k (Nat.lt_of_lt_of_le hk (Nat.le_trans hb1.size hT2.turned.size)) (by have := HQ.out; omega)).trans ((hT2.turned.block k (Nat.lt_of_lt_of_le hk hb1.size) hs).trans (hb1.block k hk))⟩, fun k hk hd => hT2.dom k (Nat.lt_of_lt_of_le hk hb1.size) hd⟩, hno2, ?_⟩
    exact (hts.block ob (Array.getElem?_eq_some_iff.1 hO2).1 (fun e => hnq (.inr e.symm))).trans hO2)
  clear hr2 hS2 hT2 hno2 hO2 hnq
  cases hfR : R.2.fin with
  | some en =>
    rw [hfR] at he
    obtain rfl : e = endPanic en := he
    have HF := Lib.hid hfR
    clear hfR
    show bodyPostD _ _ _ (Exit.panic _) _ _
    refine leaves_cons (f := 45) (args := #[.pointer (some ⟨q, 0, none⟩)]) (by simp) (by simp [go_sem]) ?_
    refine (catch_panicking q 0 en [] w2 k0 z0).mono ?_
    rintro e u' w'' ⟨rfl, rfl, rfl⟩
    simp [Leaves, settle, results, Try.results30, go_sem]
    exact ⟨.int .i64 en, by rw [(HE.out en).1], by rw [HF.out]; rfl, (HE.out en).2⟩
  | none =>
    rw [hfR] at he
    obtain rfl : e = .returned (.tuple #[]) := he
    have HF := Lib.hid hfR
    clear hfR
    go_wp2
    refine leaves_cons (f := 45) (args := #[.pointer (some ⟨q, 0, none⟩)]) (by simp) (by simp [go_sem]) ?_
    refine (catch_idle q _).mono ?_
    rintro e u' w'' ⟨rfl, rfl, rfl⟩
    simp [Leaves, settle, results, Try.results30, go_sem]
    exact ⟨.int .i64 0, by rw [(HE.out 0).1], by rw [HF.out]; rfl, (HE.out 0).2⟩
end

end Go.Proofs.Ytajnldkempeheaa
