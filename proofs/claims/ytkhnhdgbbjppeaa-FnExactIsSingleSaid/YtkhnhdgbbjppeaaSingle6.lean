
/-
  IsSingle, the program's: what its test of a code calls.
-/
import Derived.Test.YtkhnhdgbbjppeaaSingle3
import Derived.Test.YtkhnhdgbbjppeaaSetsImpl
import Derived.Test.YtkhnhdgbbjppeaaUvUnit
namespace Go.Proofs.Ytkhnhdgbbjppeaa
open Go.RowKit

theorem domP_at {g : List (List Int)} (hf : Fits g) {a b : Nat} (ha : a < g.length) (hb : b < g.length) : domP g (a : Int) (b : Int) = domB g a b := by
  have h1 : inP g (a : Int) = true := inP_true.2 ⟨hf, by omega, by omega⟩
  have h2 : inP g (b : Int) = true := inP_true.2 ⟨hf, by omega, by omega⟩
  rw [domP, h1, h2]; simp

set_option maxHeartbeats 400000 in
theorem indexFalse_any (a : Option Addr) (len cap : Nat) (xs : List Bool) (w : World) (hin : BoolsRd w a len xs) (hs : len ≤ 1099511627776) :
    Calls Try.prog 164 #[.slice a len cap, .bool false] w fun e w' => e = .returned (.int .i64 (idxP (fun y => !y) xs)) ∧ w = w' := by
  have HL := Lib.hid hin.length
  go_enter Try.func164, Try.ntmps164
  go_wp2
  go_loop [8] (fun i => ∃ k : Nat, k ≤ len ∧ i = .int .i64 k ∧ Hid (∀ (j : Nat) y, j < k → xs[j]? = some y → (!y) = false)) (fun i => len - (intOf i).toNat)
  case atStart => exact ⟨0, Nat.zero_le _, rfl, Lib.hid (fun j x hj => by omega)⟩
  case round =>
    obtain ⟨k, hk, rfl, hno⟩ := hrel
    by_cases hlt : k < len
    · obtain ⟨b, off, y, rfl, hy, hc⟩ := hin.place hlt
      have HY := Lib.hid hy
      clear hy
      cases y with
      | false =>
        have HI := Lib.hid (idxP_some (p := fun y => !y) hno.out HY.out rfl)
        go_wp2
        go_ret
        exact ⟨ret_int HI.out.symm, rfl⟩
      | true =>
        go_wp2
        go_round
        case rel =>
          refine ⟨k + 1, by omega, by go_num, Lib.hid fun j z hj hjz => ?_⟩
          by_cases hjk : j = k
          · subst hjk
            rw [HY.out] at hjz
            cases hjz
            rfl
          · exact hno.out j z (by omega) hjz
        case measure => simp [intOf]; omega
    · obtain rfl : k = len := by omega
      go_wp2
      go_ret
      refine ⟨ret_int ?_, rfl⟩
      rw [idxP_none]
      intro y hy
      obtain ⟨j, hj⟩ := List.getElem?_of_mem hy
      exact hno.out j y (by have := (List.getElem?_eq_some_iff.1 hj).1; have := HL.out; omega) hj
theorem containsFalse_any (a : Option Addr) (len cap : Nat) (xs : List Bool) (w : World) (hin : BoolsRd w a len xs) (hs : len ≤ 1099511627776) :
    Calls Try.prog 122 #[.slice a len cap, .bool false] w fun e w' => e = .returned (.bool (xs.any (fun y => !y))) ∧ w = w' := by
  have HI := Lib.hid (idxP_nonneg (p := fun y : Bool => !y) xs)
  go_enter Try.func122, Try.ntmps122
  go_wp2_with fail
  refine (indexFalse_any a len cap xs w hin hs).mono ?_
  rintro e w1 ⟨rfl, rfl⟩
  go_wp2
  go_ret
  exact ⟨ret_bool HI.out, rfl⟩

/-- The function value answers p of each code, and changes nothing that was there. -/
structure CodeFn (w : World) (f : Nat) (caps : Array Value) (xs : List CodeD) (p : CodeD → Bool) : Prop where
  enter : ∀ v W, (callFunc f (#[v] ++ caps)).run Try.prog W = .ok (.enter f (#[v] ++ caps)) W
  calls : ∀ x ∈ xs, ∀ cs W, Below w.heap.size w W → CodeR W cs x → Calls Try.prog f (#[.agg (List.toArray cs)] ++ caps) W fun e w' => e = .returned (.bool (p x)) ∧ Below W.heap.size W w'
set_option maxHeartbeats 800000 in
theorem indexCodes_any (f : Nat) (caps : Array Value) (p : CodeD → Bool) (a : Option Addr) (len cap : Nat) (xs : List CodeD) (w : World) (hin : SliceRd 3 CodeR w a len xs) (hf : CodeFn w f caps xs p) (hs : len ≤ 1099511627776) :
    Calls Try.prog 121 #[.slice a len cap, .func (.func f) #[] caps] w fun e w' => e = .returned (.int .i64 (idxP p xs)) ∧ Below w.heap.size w w' := by
  have hen := hf.enter
  have HL := Lib.hid hin.length
  go_enter Try.func121, Try.ntmps121
  go_wp2
  go_loopw [8] (fun i wr => ∃ k : Nat, k ≤ len ∧ i = .int .i64 k ∧ Below w.heap.size w wr ∧ Hid (∀ (j : Nat) x, j < k → xs[j]? = some x → p x = false)) (fun i _ => len - (intOf i).toNat)
  case atStart => exact ⟨0, Nat.zero_le _, rfl, Below.refl _ _, Lib.hid (fun j x hj => by omega)⟩
  case round =>
    obtain ⟨k, hk, rfl, hbr, hno⟩ := hrel
    by_cases hlt : k < len
    · obtain ⟨b, off, params, regs, blocks, ba, bc, rfl, hx, c0, c1, c2, hR⟩ := code_place (hin.later codeR_lasts hbr) hlt
      have hcall := hf.calls _ (List.mem_of_getElem? hx) _ wr hbr hR
      have HX := Lib.hid hx
      have HC := Lib.hid hcall
      clear hx hcall hR
      by_cases hp : p ⟨params, regs, blocks⟩ = true
      · have hidx := idxP_some hno.out HX.out hp
        have HI := Lib.hid hidx
        have HP := Lib.hid hp
        clear hidx hp
        go_wp2_with fail
        refine HC.out.mono ?_
        rw [HP.out]
        rintro e w1 ⟨rfl, hb1⟩
        go_wp2
        go_ret
        exact ⟨ret_int HI.out.symm, hbr.trans (hb1.mono hbr.size)⟩
      · have hp' : p ⟨params, regs, blocks⟩ = false := by simpa using hp
        have HP := Lib.hid hp'
        clear hp hp'
        go_wp2_with fail
        refine HC.out.mono ?_
        rw [HP.out]
        rintro e w1 ⟨rfl, hb1⟩
        go_wp2
        go_roundw
        case rel =>
          refine ⟨k + 1, by omega, by go_num, hbr.trans (hb1.mono hbr.size), Lib.hid fun j x hj hjx => ?_⟩
          by_cases hjk : j = k
          · subst hjk
            rw [HX.out] at hjx
            cases hjx
            exact HP.out
          · exact hno.out j x (by omega) hjx
        case measure => simp [intOf]; omega
    · obtain rfl : k = len := by omega
      go_wp2
      go_ret
      refine ⟨ret_int ?_, hbr⟩
      rw [idxP_none]
      intro r hr
      obtain ⟨j, hj⟩ := List.getElem?_of_mem hr
      exact hno.out j r (by have := (List.getElem?_eq_some_iff.1 hj).1; have := HL.out; omega) hj
theorem containsCodes_any (f : Nat) (caps : Array Value) (p : CodeD → Bool) (a : Option Addr) (len cap : Nat) (xs : List CodeD) (w : World) (hin : SliceRd 3 CodeR w a len xs) (hf : CodeFn w f caps xs p) (hs : len ≤ 1099511627776) :
    Calls Try.prog 78 #[.slice a len cap, .func (.func f) #[] caps] w fun e w' => e = .returned (.bool (xs.any p)) ∧ Below w.heap.size w w' := by
  have HI := Lib.hid (idxP_nonneg (p := p) xs)
  go_enter Try.func78, Try.ntmps78
  go_wp2_with fail
  refine (indexCodes_any f caps p a len cap xs w hin hf hs).mono ?_
  rintro e w1 ⟨rfl, hb1⟩
  go_wp2
  go_ret
  exact ⟨ret_bool HI.out, hb1⟩

theorem SetI.row {g n : Nat} {L : List (Int × Pl)} {w wr : World} (h : SetI g n L w wr) {m : Nat} (hm : m < n) :
    ∃ ra rc ps, (setsP n L)[m]? = some ps ∧ ps.length ≤ L.length ∧ wr.cell? ⟨g, m, none⟩ = some (.slice ra ps.length rc) ∧
      ∀ a rest, ps = a :: rest → ∃ b o, ra = some ⟨b, o, none⟩ ∧ wr.cell? ⟨b, o, none⟩ = some (.int .i64 a.1) ∧ wr.cell? ⟨b, o + 1, none⟩ = some (.int .i64 a.2) := by
  obtain ⟨rows, r, ps, h1, h2, h3, h4, h5, h6, h7, h8, h9, h10⟩ := h.get hm
  refine ⟨r.a, r.cap, ps, h4, by omega, by rw [← h5]; exact h8, fun a rest e => ?_⟩
  subst e
  have hv0 : r.vs[0]? = some (.int .i64 a.1) := by rw [h6]; simp [plcs]
  have hv1 : r.vs[1]? = some (.int .i64 a.2) := by rw [h6]; simp [plcs]
  rcases rowAt_of_own h10 with h0 | ⟨b, o, hab, hc⟩
  · rw [h0] at hv0; simp at hv0
  · refine ⟨b, o, hab, ?_, ?_⟩
    · have := hc 0 _ hv0
      rwa [Nat.add_zero] at this
    · exact hc 1 _ hv1

/-- The table of places as it reads. -/
structure PlRd (w : World) (g n : Nat) (P : List (List Pl)) : Prop where
  row : ∀ m, m < n → ∃ ra rc ps, P[m]? = some ps ∧ w.cell? ⟨g, m, none⟩ = some (.slice ra ps.length rc) ∧
    ∀ a rest, ps = a :: rest → ∃ b o, ra = some ⟨b, o, none⟩ ∧ w.cell? ⟨b, o, none⟩ = some (.int .i64 a.1) ∧ w.cell? ⟨b, o + 1, none⟩ = some (.int .i64 a.2)
theorem SetI.rd {g n : Nat} {L : List (Int × Pl)} {w wr : World} (h : SetI g n L w wr) : PlRd wr g n (setsP n L) :=
  ⟨fun m hm => by
    obtain ⟨ra, rc, ps, h1, _, h2, h3⟩ := h.row hm
    exact ⟨ra, rc, ps, h1, h2, h3⟩⟩
theorem PlRd.later {w w' : World} {g n : Nat} {P : List (List Pl)} (h : PlRd w g n P) (hb : Below w.heap.size w w') : PlRd w' g n P :=
  ⟨fun m hm => by
    obtain ⟨ra, rc, ps, h1, h2, h3⟩ := h.row m hm
    refine ⟨ra, rc, ps, h1, cell_later hb h2, fun a rest e => ?_⟩
    obtain ⟨b, o, e1, e2, e3⟩ := h3 a rest e
    exact ⟨b, o, e1, cell_later hb e2, cell_later hb e3⟩⟩

/-! ### a store into a box leaves what holds other values -/
theorem cell_kept {w : World} {p A : Addr} {u v x : Value} (hp : w.cell? p = some v) (hA : w.cell? A = some x) (hne : x ≠ v) : (w.setCell p u).cell? A = some x := by
  have h : A ≠ p := fun e => by subst e; rw [hp] at hA; cases hA; exact hne rfl
  rw [World.cell?_setCell_other _ _ _ _ (fun e => h e.symm)]; exact hA
theorem RowAt.kept {w : World} {p : Addr} {u v : Value} {a : Option Addr} {vs : List Value} (h : RowAt w a vs) (hp : w.cell? p = some v) (hv : ∀ x ∈ vs, x ≠ v) : RowAt (w.setCell p u) a vs := by
  rcases h with h0 | ⟨b, o, ha, hc⟩
  · exact .inl h0
  · exact .inr ⟨b, o, ha, fun i x hx => cell_kept hp (hc i x hx) (hv x (List.mem_of_getElem? hx))⟩
theorem BoolsRd.kept {w : World} {p : Addr} {u v : Value} {a : Option Addr} {n : Nat} {bs : List Bool} (h : BoolsRd w a n bs) (hp : w.cell? p = some v) (hv : ∀ x, v ≠ .bool x) : BoolsRd (w.setCell p u) a n bs :=
  ⟨h.length, h.row.kept hp (fun x hx e => by obtain ⟨y, _, rfl⟩ := List.mem_map.1 hx; exact hv y e.symm)⟩
theorem DomsAt.kept {w : World} {p r : Int} {ba : Option Addr} {bc : Nat} {g : List (List Int)} {db : Nat} {oa : Option Addr} {oc sb b : Nat} {u v : Value} (h : DomsAt w p r ba bc g db oa oc sb) (hp : w.cell? ⟨b, 0, none⟩ = some v) (hb : ∀ x, v ≠ .bool x) (hi : ∀ k i, v ≠ .int k i) (hs : ∀ a c, v ≠ .slice a g.length c) : DomsAt (w.setCell ⟨b, 0, none⟩ u) p r ba bc g db oa oc sb := by
  refine ⟨?_, ?_, h.inn.kept hp hb⟩
  · rw [heap_setCell_other _ _ _ _ (fun e => ?_)]
    · exact h.blk
    · have h0 : w.cell? ⟨db, 0, none⟩ = some (.int .i64 p) := cell_of_row _ _ 0 _ _ _ h.blk
      have e2 : db = b := e
      rw [e2, hp] at h0
      exact hi _ _ (Option.some.inj h0)
  · obtain ⟨hl, cells, h1, h2, h3, h4⟩ := h.over
    refine ⟨hl, cells, h1.kept hp (fun x hx e => ?_), h2, h3, fun i c x hc hx => ?_⟩
    · obtain ⟨c, hc, hxc⟩ := List.mem_flatten.1 hx
      obtain ⟨i, hi'⟩ := List.getElem?_of_mem hc
      have hil : i < g.length := by rw [← h2]; exact (List.getElem?_eq_some_iff.1 hi').1
      obtain ⟨y, hy⟩ : ∃ y, (domMat g)[i]? = some y := ⟨_, List.getElem?_eq_getElem (by rw [hl]; exact hil)⟩
      obtain ⟨ra, rc, rfl, _⟩ := h4 i c y hi' hy
      have hyl : y.length = g.length := by
        unfold domMat at hy
        rw [List.getElem?_map, List.getElem?_range hil] at hy
        cases hy
        simp [domRow]
      rw [List.mem_singleton] at hxc
      subst hxc
      rw [hyl] at e
      exact hs _ _ e.symm
    · obtain ⟨ra, rc, hc2, hb2⟩ := h4 i c x hc hx
      exact ⟨ra, rc, hc2, hb2.kept hp hb⟩
theorem PlRd.kept {w : World} {g n b : Nat} {P : List (List Pl)} {u v : Value} (h : PlRd w g n P) (hp : w.cell? ⟨b, 0, none⟩ = some v) (hi : ∀ k i, v ≠ .int k i) (hg : g ≠ b) : PlRd (w.setCell ⟨b, 0, none⟩ u) g n P :=
  ⟨fun m hm => by
    obtain ⟨ra, rc, ps, h1, h2, h3⟩ := h.row m hm
    refine ⟨ra, rc, ps, h1, ?_, fun a rest e => ?_⟩
    · rw [World.cell?_setCell_other _ _ _ _ (fun e => hg (congrArg Addr.block e).symm)]; exact h2
    · obtain ⟨b2, o, e1, e2, e3⟩ := h3 a rest e
      exact ⟨b2, o, e1, cell_kept hp e2 (fun e => hi _ _ e.symm), cell_kept hp e3 (fun e => hi _ _ e.symm)⟩⟩

/-- What the walk knows while the table of the dominators and that of the places, and a box for each, come up in whatever order. -/
structure St4 (p r : Int) (ba : Option Addr) (bc : Nat) (g : List (List Int)) (n : Nat) (P : List (List Pl)) (W1 wc : World) (D : Option (Nat × Option Addr × Nat × Nat)) (G b3 b4 : Option Nat) : Prop where
  below : Below W1.heap.size W1 wc
  dom : ∀ x, D = some x → DomsAt wc p r ba bc g x.1 x.2.1 x.2.2.1 x.2.2.2
  pl : ∀ gs, G = some gs → PlRd wc gs n P ∧ gs < wc.heap.size
  x3 : ∀ b, b3 = some b → wc.heap[b]? = some (.cells #[.pointer none] 90 (0, 0)) ∧ W1.heap.size ≤ b
  x4 : ∀ b, b4 = some b → wc.heap[b]? = some (.cells #[.slice none 0 0] 80 (0, 0)) ∧ W1.heap.size ≤ b
  ne3 : ∀ gs b, G = some gs → b3 = some b → gs ≠ b
  ne4 : ∀ gs b, G = some gs → b4 = some b → gs ≠ b
  n34 : ∀ a b, b3 = some a → b4 = some b → a ≠ b
variable {p r : Int} {ba : Option Addr} {bc : Nat} {g : List (List Int)} {n : Nat} {P : List (List Pl)} {W1 wc w' : World} {D : Option (Nat × Option Addr × Nat × Nat)} {G b3 b4 : Option Nat}
theorem St4.start (hb : Below W1.heap.size W1 wc) : St4 p r ba bc g n P W1 wc none none none none :=
  ⟨hb, by simp, by simp, by simp, by simp, by simp, by simp, by simp⟩
theorem St4.later (h : St4 p r ba bc g n P W1 wc D G b3 b4) (hb : Below wc.heap.size wc w') : St4 p r ba bc g n P W1 w' D G b3 b4 :=
  ⟨h.below.trans (hb.mono h.below.size), fun x e => (h.dom x e).later hb, fun gs e => ⟨(h.pl gs e).1.later hb, Nat.lt_of_lt_of_le (h.pl gs e).2 hb.size⟩,
    fun b e => ⟨(hb.block _ (Array.getElem?_eq_some_iff.1 (h.x3 b e).1).1).trans (h.x3 b e).1, (h.x3 b e).2⟩, fun b e => ⟨(hb.block _ (Array.getElem?_eq_some_iff.1 (h.x4 b e).1).1).trans (h.x4 b e).1, (h.x4 b e).2⟩, h.ne3, h.ne4, h.n34⟩
theorem St4.callD {x : Nat × Option Addr × Nat × Nat} (h : St4 p r ba bc g n P W1 wc none G b3 b4) (hb : Below wc.heap.size wc w') (hD : DomsAt w' p r ba bc g x.1 x.2.1 x.2.2.1 x.2.2.2) : St4 p r ba bc g n P W1 w' (some x) G b3 b4 := by
  have h2 := h.later hb
  exact ⟨h2.below, fun y e => by cases e; exact hD, h2.pl, h2.x3, h2.x4, h2.ne3, h2.ne4, h2.n34⟩
theorem St4.callP {gs : Nat} (h : St4 p r ba bc g n P W1 wc D none b3 b4) (hb : Below wc.heap.size wc w') (hP : PlRd w' gs n P) (hlo : wc.heap.size ≤ gs) (hlt : gs < w'.heap.size) : St4 p r ba bc g n P W1 w' D (some gs) b3 b4 := by
  have h2 := h.later hb
  refine ⟨h2.below, h2.dom, fun y e => by cases e; exact ⟨hP, hlt⟩, h2.x3, h2.x4, fun y b e e2 => ?_, fun y b e e2 => ?_, h2.n34⟩
  · cases e
    have := (Array.getElem?_eq_some_iff.1 (h.x3 b e2).1).1
    omega
  · cases e
    have := (Array.getElem?_eq_some_iff.1 (h.x4 b e2).1).1
    omega
theorem St4.al3 (h : St4 p r ba bc g n P W1 wc D G none b4) : St4 p r ba bc g n P W1 (wc.alloc (.cells #[.pointer none] 90)) D G (some wc.heap.size) b4 := by
  have h2 := h.later (w' := wc.alloc (.cells #[.pointer none] 90)) ((Below.refl _ _).alloc (Nat.le_refl _) _)
  refine ⟨h2.below, h2.dom, h2.pl, fun b e => ?_, h2.x4, fun y b e e2 => ?_, h2.ne4, fun a b e e2 => ?_⟩
  · cases e; exact ⟨heap_alloc_new wc _, h.below.size⟩
  · cases e2; have := (h.pl y e).2; omega
  · cases e; have := (Array.getElem?_eq_some_iff.1 (h.x4 b e2).1).1; omega
theorem St4.al4 (h : St4 p r ba bc g n P W1 wc D G b3 none) : St4 p r ba bc g n P W1 (wc.alloc (.cells #[.slice none 0 0] 80)) D G b3 (some wc.heap.size) := by
  have h2 := h.later (w' := wc.alloc (.cells #[.slice none 0 0] 80)) ((Below.refl _ _).alloc (Nat.le_refl _) _)
  refine ⟨h2.below, h2.dom, h2.pl, h2.x3, fun b e => ?_, h2.ne3, fun y b e e2 => ?_, fun a b e e2 => ?_⟩
  · cases e; exact ⟨heap_alloc_new wc _, h.below.size⟩
  · cases e2; have := (h.pl y e).2; omega
  · cases e2; have := (Array.getElem?_eq_some_iff.1 (h.x3 a e).1).1; omega
theorem St4.st3 {b : Nat} (h : St4 p r ba bc g n P W1 wc D G (some b) b4) : wc.cell? ⟨b, 0, none⟩ = some (.pointer none) ∧ wc.frozen? ⟨b, 0, none⟩ = false :=
  ⟨cell_of_row _ _ 0 _ _ _ (h.x3 b rfl).1, frozen_of_row _ _ 0 _ _ (h.x3 b rfl).1⟩
theorem St4.st4 {a b : Nat} (h : St4 p r ba bc g n P W1 wc D G (some a) (some b)) (u : Value) : (wc.setCell ⟨a, 0, none⟩ u).cell? ⟨b, 0, none⟩ = some (.slice none 0 0) ∧ (wc.setCell ⟨a, 0, none⟩ u).frozen? ⟨b, 0, none⟩ = false := by
  have hx : (wc.setCell ⟨a, 0, none⟩ u).heap[b]? = some (.cells #[.slice none 0 0] 80 (0, 0)) := by
    rw [heap_setCell_other _ _ _ _ (fun e => h.n34 a b rfl rfl e.symm)]; exact (h.x4 b rfl).1
  exact ⟨cell_of_row _ _ 0 _ _ _ hx, frozen_of_row _ _ 0 _ _ hx⟩
/-- Both tables, each in its box. -/
structure End4 (p r : Int) (ba : Option Addr) (bc : Nat) (g : List (List Int)) (n : Nat) (P : List (List Pl)) (W1 wx : World) (x : Nat × Option Addr × Nat × Nat) (gs a b : Nat) : Prop where
  below : Below W1.heap.size W1 wx
  dom : DomsAt wx p r ba bc g x.1 x.2.1 x.2.2.1 x.2.2.2
  pl : PlRd wx gs n P
  c3 : wx.cell? ⟨a, 0, none⟩ = some (.pointer (some ⟨x.1, 0, none⟩))
  c4 : wx.cell? ⟨b, 0, none⟩ = some (.slice (some ⟨gs, 0, none⟩) n n)
theorem St4.fin {x : Nat × Option Addr × Nat × Nat} {gs a b : Nat} (hg : 0 < g.length) (h : St4 p r ba bc g n P W1 wc (some x) (some gs) (some a) (some b)) :
    End4 p r ba bc g n P W1 ((wc.setCell ⟨a, 0, none⟩ (.pointer (some ⟨x.1, 0, none⟩))).setCell ⟨b, 0, none⟩ (.slice (some ⟨gs, 0, none⟩) n n)) x gs a b := by
  have h3 := h.x3 a rfl
  have h4 := h.x4 b rfl
  have hc3 : wc.cell? ⟨a, 0, none⟩ = some (.pointer none) := cell_of_row _ _ 0 _ _ _ h3.1
  have hx : (wc.setCell ⟨a, 0, none⟩ (.pointer (some ⟨x.1, 0, none⟩))).heap[b]? = some (.cells #[.slice none 0 0] 80 (0, 0)) := by
    rw [heap_setCell_other _ _ _ _ (fun e => h.n34 a b rfl rfl e.symm)]; exact h4.1
  have hc4 : (wc.setCell ⟨a, 0, none⟩ (.pointer (some ⟨x.1, 0, none⟩))).cell? ⟨b, 0, none⟩ = some (.slice none 0 0) := cell_of_row _ _ 0 _ _ _ hx
  have hs3 : (wc.setCell ⟨a, 0, none⟩ (.pointer (some ⟨x.1, 0, none⟩))).cell? ⟨a, 0, none⟩ = some (.pointer (some ⟨x.1, 0, none⟩)) := World.cell?_setCell_same _ _ _ hc3
  refine ⟨(h.below.setCell h3.2 _).setCell h4.2 _, ?_, ?_, ?_, ?_⟩
  · refine ((h.dom x rfl).kept hc3 (by simp) (by simp) (by simp)).kept hc4 (by simp) (by simp) (fun a c e => ?_)
    simp only [Value.slice.injEq] at e
    omega
  · exact ((h.pl gs rfl).1.kept hc3 (by simp) (h.ne3 gs a rfl rfl)).kept hc4 (by simp) (h.ne4 gs b rfl rfl)
  · exact cell_kept hc4 hs3 (by simp)
  · exact World.cell?_setCell_same _ _ _ hc4

end Go.Proofs.Ytkhnhdgbbjppeaa
