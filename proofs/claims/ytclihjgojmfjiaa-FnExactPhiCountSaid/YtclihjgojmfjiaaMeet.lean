/-
  The answers of MeetOf: the reference's and the program's.
-/
import Derived.Test.YtclihjgojmfjiaaNearest
namespace Go.Proofs.Ytclihjgojmfjiaa
open Go.RowKit

theorem three_blocks' (w : World) (P Q R : Obj) : (((w.alloc P).alloc Q).alloc R).heap[w.heap.size]? = some P ∧ (((w.alloc P).alloc Q).alloc R).heap[w.heap.size + 1]? = some Q ∧ (((w.alloc P).alloc Q).alloc R).heap[w.heap.size + 2]? = some R ∧ (((w.alloc P).alloc Q).alloc R).heap.size = w.heap.size + 3 ∧ Below w.heap.size w (((w.alloc P).alloc Q).alloc R) := by
  have h3 := heap_alloc_new ((w.alloc P).alloc Q) R
  simp only [World.size_alloc] at h3
  refine ⟨?_, ?_, h3, by simp, (((Below.refl _ _).alloc (Nat.le_refl _) _).alloc (by simp) _).alloc (by simp; omega) _⟩
  · rw [heap_alloc_old _ _ (by simp; omega)]; exact heap_alloc2_old w P Q
  · rw [heap_alloc_old _ _ (by simp)]; exact heap_alloc2_new w P Q
theorem rowAt_new (w : World) (v : Value) (t : TypeId) : (w.alloc (.cells #[v] t)).cell? ⟨w.heap.size, 0, none⟩ = some v := cell_of_row _ _ 0 _ _ _ (heap_alloc_new w _)

set_option maxRecDepth 100000 in
set_option maxHeartbeats 2000000 in
theorem implMeetOf_any (p r : Int) (ba : Option Addr) (bc : Nat) (g : List (List Int)) (a b : Int) (w : World) (hg : Gr w ba g) :
    Calls Try.prog 21 #[.agg #[.int .i64 p, .int .i64 r, .slice ba g.length bc], .int .i64 a, .int .i64 b] w fun e w' => e = .returned (.int .i64 (meetP g a b)) ∧ Below w.heap.size w w' := by
  have hmf : ∀ (fn : Fn) (first cap : Array Value) (w : World), (Instr.makeFunc fn first cap).run Try.prog w = .ok (.func fn first cap) w := fun _ _ _ _ => rfl
  have hlen := hg.len
  have H3 := three_blocks' w (.cells #[.int .i64 p, .int .i64 r, .slice ba g.length bc] 29) (.cells #[.int .i64 a] 3) (.cells #[.int .i64 b] 3)
  have HH := Lib.hid H3
  clear H3
  go_enter Try.func21, Try.ntmps21
  go_wp2_with fail
  generalize ((w.alloc (.cells #[.int .i64 p, .int .i64 r, .slice ba g.length bc] 29)).alloc (.cells #[.int .i64 a] 3)).alloc (.cells #[.int .i64 b] 3) = W0 at HH ⊢
  refine (domsOf_any g p r ba bc W0 (hg.later HH.out.2.2.2.2)).mono ?_
  rintro e w1 ⟨hb1, hcase⟩
  have hb01 : Below w.heap.size w w1 := HH.out.2.2.2.2.trans (hb1.mono HH.out.2.2.2.2.size)
  have hsz0 := HH.out.2.2.2.1
  have hka : w1.cell? ⟨w.heap.size + 1, 0, none⟩ = some (.int .i64 a) := cell_of_row _ _ 0 _ _ _ ((hb1.block _ (by omega)).trans HH.out.2.1)
  have hkb : w1.cell? ⟨w.heap.size + 2, 0, none⟩ = some (.int .i64 b) := cell_of_row _ _ 0 _ _ _ ((hb1.block _ (by omega)).trans HH.out.2.2.1)
  clear HH hsz0
  rcases hcase with ⟨hf, rfl⟩ | ⟨hf, db, oa, oc, sb, rfl, hD⟩
  · have HF := Lib.hid hf
    clear hf
    have hba : Below w1.heap.size w1 (w1.alloc (.cells #[.pointer none] 61)) := (Below.refl _ _).alloc (Nat.le_refl _) _
    have hka' := cell_later hba hka
    clear hka
    go_wp2_with fail
    refine (has_nil a _).mono ?_
    rintro e w2 ⟨rfl, hb2⟩
    have hb02 := hb01.trans ((hba.trans (hb2.mono hba.size)).mono hb01.size)
    go_wp2
    go_ret
    exact ⟨ret_int (by rw [meetP, inP, HF.out]; rfl), hb02⟩
  · have HP := Lib.hid (meetP_of (a := a) (b := b) hf)
    have hba : Below w1.heap.size w1 (w1.alloc (.cells #[.pointer (some ⟨db, 0, none⟩)] 61)) := (Below.refl _ _).alloc (Nat.le_refl _) _
    have hkd := rowAt_new w1 (.pointer (some ⟨db, 0, none⟩)) 61
    have hDa := hD.later hba
    have hka' := cell_later hba hka
    have hkb' := cell_later hba hkb
    clear hka hkb hD
    go_wp2_with fail
    generalize w1.alloc (.cells #[.pointer (some ⟨db, 0, none⟩)] 61) = W1 at hba hkd hDa hka' hkb' ⊢
    have hb0a := hb01.trans (hba.mono hb01.size)
    refine (has_any p r ba bc g db oa oc sb a W1 hDa hlen).mono ?_
    rintro e w2 ⟨rfl, hb2⟩
    have hb02 := hb0a.trans (hb2.mono hb0a.size)
    have hD2 := hDa.later hb2
    have hkd2 := cell_later hb2 hkd
    have hka2 := cell_later hb2 hka'
    have hkb2 := cell_later hb2 hkb'
    clear hkd hka' hkb' hDa hba hb0a hb2
    cases hh : hasP g a with
    | false =>
      have HA := Lib.hid hh
      clear hh
      go_wp2
      go_ret
      exact ⟨ret_int (by rw [HP.out, HA.out]; rfl), hb02⟩
    | true =>
      have HA := Lib.hid hh
      clear hh
      go_wp2_with fail
      refine (has_any p r ba bc g db oa oc sb b w2 hD2 hlen).mono ?_
      rintro e w3 ⟨rfl, hb3⟩
      have hb03 := hb02.trans (hb3.mono hb02.size)
      have hD3 := hD2.later hb3
      have hkd3 := cell_later hb3 hkd2
      have hka3 := cell_later hb3 hka2
      have hkb3 := cell_later hb3 hkb2
      clear hkd2 hka2 hkb2 hD2 hb3
      cases hh : hasP g b with
      | false =>
        have HB := Lib.hid hh
        clear hh
        go_wp2
        go_ret
        exact ⟨ret_int (by rw [HP.out, HA.out, HB.out]; rfl), hb03⟩
      | true =>
        have HB := Lib.hid hh
        clear hh
        have ha := HA.out
        have hb := HB.out
        simp only [hasP, Bool.and_eq_true, okN_iff] at ha hb
        obtain ⟨a, rfl⟩ : ∃ n : Nat, a = (n : Int) := ⟨a.toNat, by omega⟩
        obtain ⟨b, rfl⟩ : ∃ n : Nat, b = (n : Int) := ⟨b.toNat, by omega⟩
        have han : a < g.length := by omega
        have hbn : b < g.length := by omega
        clear ha hb
        have hfn : NearFn w3 58 #[.pointer (some ⟨w1.heap.size, 0, none⟩), .pointer (some ⟨w.heap.size + 1, 0, none⟩), .pointer (some ⟨w.heap.size + 2, 0, none⟩)] g.length (fun k => domB g k a && domB g k b) :=
          ⟨fun _ _ => rfl, fun x hx W hW => meet1_any p r ba bc g db oa oc sb x a b _ _ _ hx han hbn W (hD3.later hW) (cell_later hW hkd3) (cell_later hW hka3) (cell_later hW hkb3)⟩
        have HFN := Lib.hid hfn
        clear hfn
        go_wp2_with fail
        refine (nearest_any p r ba bc g db oa oc sb 58 _ (fun k => domB g k a && domB g k b) w3 hD3 HFN.out hlen).mono ?_
        rintro e w4 ⟨rfl, hb4⟩
        go_wp2
        go_ret
        exact ⟨ret_int (by rw [HP.out, HA.out, HB.out]; rfl), hb03.trans (hb4.mono hb03.size)⟩

set_option maxRecDepth 100000 in
set_option maxHeartbeats 2000000 in
theorem specMeetOf_any (p r : Int) (ba : Option Addr) (bc : Nat) (g : List (List Int)) (a b : Int) (w : World) (hg : Gr w ba g) :
    Calls Try.prog 20 #[.agg #[.int .i64 p, .int .i64 r, .slice ba g.length bc], .int .i64 a, .int .i64 b] w fun e w' => e = .returned (.int .i64 (meetP g a b)) ∧ Below w.heap.size w w' := by
  have hb0 := below_box w (.int .i64 p) (.int .i64 r) (.slice ba g.length bc)
  have HC := Lib.hid (heap_alloc_new w (.cells #[.int .i64 p, .int .i64 r, .slice ba g.length bc] 29))
  have hlen := hg.len
  go_enter Try.func20, Try.ntmps20
  go_wp2_with fail
  refine (l11In_any p r ba bc g a _ (hg.later hb0)).mono ?_
  rintro e w1 ⟨rfl, hb1⟩
  have hb01 := hb0.trans (hb1.mono hb0.size)
  have hC1 := (hb1.block w.heap.size (by simp)).trans HC.out
  have hk0 : w1.cell? ⟨w.heap.size, 0, none⟩ = some (.int .i64 p) := cell_of_row _ _ 0 _ _ _ hC1
  have hk1 : w1.cell? ⟨w.heap.size, 1, none⟩ = some (.int .i64 r) := cell_of_row _ _ 1 _ _ _ hC1
  have hk2 : w1.cell? ⟨w.heap.size, 2, none⟩ = some (.slice ba g.length bc) := cell_of_row _ _ 2 _ _ _ hC1
  clear hC1
  cases ha : inP g a with
  | false =>
    have HF := Lib.hid ha
    clear ha
    go_wp2
    go_ret
    exact ⟨ret_int (by rw [meetP, HF.out]; rfl), hb01⟩
  | true =>
    have HA := Lib.hid ha
    clear ha
    go_wp2_with fail
    refine (l11In_any p r ba bc g b _ (hg.later hb01)).mono ?_
    rintro e w2 ⟨rfl, hb2⟩
    have hb02 := hb01.trans (hb2.mono hb01.size)
    have hk0' := cell_later hb2 hk0
    have hk1' := cell_later hb2 hk1
    have hk2' := cell_later hb2 hk2
    clear hk0 hk1 hk2
    cases hb : inP g b with
    | false =>
      have HF := Lib.hid hb
      clear hb
      go_wp2
      go_ret
      exact ⟨ret_int (by rw [meetP, HA.out, HF.out]; rfl), hb02⟩
    | true =>
      have HB := Lib.hid hb
      clear hb
      obtain ⟨hf, ha0, ha1⟩ := inP_true.1 HA.out
      obtain ⟨_, hb0', hb1'⟩ := inP_true.1 HB.out
      obtain ⟨a, rfl⟩ : ∃ n : Nat, a = (n : Int) := ⟨a.toNat, by omega⟩
      obtain ⟨b, rfl⟩ : ∃ n : Nat, b = (n : Int) := ⟨b.toNat, by omega⟩
      have han : a < g.length := by omega
      have hbn : b < g.length := by omega
      clear ha0 ha1 hb0' hb1'
      go_wp2_with fail
      refine (l11Doms_any g hf p r ba bc w2 (hg.later hb02)).mono ?_
      rintro e w3 ⟨oa, oc, rfl, hM, hb3⟩
      have hbF := hb02.trans (hb3.mono hb02.size)
      have HM := Lib.hid hM.rd
      clear hM hk0' hk1' hk2' hb3 hb2
      go_wp2
      go_loopg [8, 9] g.length (fun F c i wr => ∃ k : Nat, k + F = g.length ∧ i = .int .i64 k ∧ c = .int .i64 (bestOf g (fun k => domB g k a && domB g k b) k) ∧ wr = w3)
      case atStart => exact ⟨0, by omega, rfl, rfl, rfl⟩
      case round =>
        obtain ⟨k, hk, rfl, rfl, rfl⟩ := hrel
        by_cases hlt : k < g.length
        · obtain ⟨q1, o1, rb, ro, rc, rfl, c1, c2⟩ := BMat.cell HM.out hlt han
          obtain ⟨q1', o1', rb', ro', rc', hq, d1, d2⟩ := BMat.cell HM.out hlt hbn
          cases hq
          rw [c1] at d1
          simp only [Option.some.injEq, Value.slice.injEq, Addr.mk.injEq, and_true, true_and] at d1
          obtain ⟨⟨rfl, rfl⟩, rfl⟩ := d1
          have hrange := bestOf_range g (fun k => domB g k a && domB g k b) k
          have hsucc : bestOf g (fun k => domB g k a && domB g k b) (k + 1) = if (domB g k a && domB g k b) && (decide (bestOf g (fun k => domB g k a && domB g k b) k < 0) || domB g (bestOf g (fun k => domB g k a && domB g k b) k).toNat k) then (k : Int) else bestOf g (fun k => domB g k a && domB g k b) k := rfl
          have HS := Lib.hid hsucc
          have HR := Lib.hid hrange
          clear hsucc hrange
          generalize bestOf g (fun k => domB g k a && domB g k b) k = ob at HS HR
          rcases HR.out with h1 | ⟨m, hm, _, h1⟩
          · subst h1
            clear HR
            generalize domB g k a = va at c2 HS
            generalize domB g k b = vb at d2 HS
            cases va <;> cases vb <;> (
              go_wp2
              go_roundg (gk - 1)
              case measure => omega
              case rel => exact ⟨k + 1, by omega, by go_num, int_val (by have h := HS.out; simpa using h.symm), rfl⟩)
          · subst h1
            clear HR
            have hmn : m < g.length := by omega
            have hdec : decide ((m : Int) < 0) = false := by simp
            obtain ⟨q2, o2, rb2, ro2, rc2, hq, e1, e2⟩ := BMat.cell HM.out hmn hlt
            cases hq
            have hS := HS.out
            rw [hdec, Int.toNat_natCast] at hS
            have HS2 := Lib.hid hS
            clear hS HS
            generalize domB g k a = va at c2 HS2
            generalize domB g k b = vb at d2 HS2
            generalize domB g m k = vd at e2 HS2
            cases va <;> cases vb <;> cases vd <;> (
              go_wp2
              go_roundg (gk - 1)
              case measure => omega
              case rel => exact ⟨k + 1, by omega, by go_num, int_val (by have h := HS2.out; simpa using h.symm), rfl⟩)
        · obtain rfl : k = g.length := by omega
          go_wp2
          go_ret
          exact ⟨ret_int (by rw [meetP, HA.out, HB.out]; rfl), hbF⟩

end Go.Proofs.Ytclihjgojmfjiaa
