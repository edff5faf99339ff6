/-
  The drawn numbers (l8In), and what DrawRunUnit, DrawStepsOf and DrawTraceOf give. (printed by mkdg10.py)
-/
import Derived.Test.YtajnldkempeheaaDg9
import Derived.Test.YtajnldkempeheaaFnStepsWalk
import Derived.Test.YtajnldkempeheaaFnTraceWalk
import Derived.Laws.ResultCell

namespace Go.Proofs.Ytajnldkempeheaa
open Go.RowKit
set_option linter.unusedVariables false
set_option linter.unusedSimpArgs false

/-- The numbers that are being drawn: the unit's variable pb, and they. -/
structure LiSt (w0 : World) (br : Nat) (ra : Option Addr) (rl rc : Nat) (bs : List Int) (w : World) (pb : Nat) (us : List CodeD) (ua : Option Addr) (uc : Nat) (S : Nat → Prop) (K : Nat) (xs : List Int) (a : Option Addr) (k c : Nat) (W : World) : Prop where
  p : W.heap[pb]? = some (.cells #[.slice ua us.length uc] 25 (0, 0))
  un : SepK 3 37 CodeK S W ua us.length uc us
  su : ∀ q, S q → q ≠ br ∧ q < w.heap.size
  own : W.ownsRow 0 3 1 (.slice a k c) k (xs.map (Value.int .i64))
  len : xs.length = k
  new : ∀ q, (Value.slice a k c).ownBlock = some q → w.heap.size ≤ q ∧ q ≠ pb
  rd : RdAt w0 br ra rl rc bs K w W
  lo : br < w.heap.size ∧ w0.heap.size ≤ w.heap.size ∧ pb = w.heap.size
section
variable {w0 w W W' w9 : World} {br : Nat} {ra : Option Addr} {rl rc : Nat} {bs : List Int} {pb : Nat} {us : List CodeD} {ua : Option Addr} {uc : Nat} {S : Nat → Prop} {K K' k : Nat} {xs : List Int} {a : Option Addr} {c : Nat}
theorem LiSt.start (hR : RdAt w0 br ra rl rc bs K w w) (hU : SepK 3 37 CodeK S w ua us.length uc us) (hS : ∀ q, S q → q ≠ br ∧ q < w.heap.size) :
    LiSt w0 br ra rl rc bs w w.heap.size us ua uc S K [] (some ⟨w.heap.size + 1, 0, none⟩) 0 0 ((w.alloc (.cells #[.slice ua us.length uc] 25)).alloc (.cells #[] 3)) := by
  have h2 := two_blocks w (.cells #[.slice ua us.length uc] 25) (.cells #[] 3)
  have hlt := hR.lt
  have ho : ((w.alloc (.cells #[.slice ua us.length uc] 25)).alloc (.cells #[] 3)).ownsRow 0 3 1 (.slice (some ⟨(w.alloc (.cells #[.slice ua us.length uc] 25)).heap.size, 0, none⟩) 0 0) 0 (([] : List Int).map (Value.int .i64)) := World.ownsRow_lit (base := 0) (size := 1) _ _ 0 (Nat.zero_le _) (by decide) rfl
  rw [World.size_alloc] at ho
  exact ⟨h2.1, hU.below codeK_sets (h2.2.2.2), hS, ho, rfl, fun q hq => by simp [Value.ownBlock] at hq; omega, hR.later h2.2.2.2, by omega, hR.base.size, rfl⟩
theorem LiSt.later (h : LiSt w0 br ra rl rc bs w pb us ua uc S K xs a k c W) (hb : Below W.heap.size W W') : LiSt w0 br ra rl rc bs w pb us ua uc S K xs a k c W' :=
  ⟨(hb.block _ (Array.getElem?_eq_some_iff.1 h.p).1).trans h.p, h.un.below codeK_sets hb, h.su, ownsRow_below h.own hb, h.len, h.new, h.rd.later hb, h.lo⟩
theorem LiSt.drew (h : LiSt w0 br ra rl rc bs w pb us ua uc S K xs a k c W) (hg : W.grownBy W' (some br)) (hr : RdAt w0 br ra rl rc bs K' w W') : LiSt w0 br ra rl rc bs w pb us ua uc S K' xs a k c W' := by
  have hl := h.lo
  have ht := turned_of_grown hg (S := fun k => k = br) (fun k hk => (Option.some.inj hk).symm)
  exact ⟨(ht.block _ (Array.getElem?_eq_some_iff.1 h.p).1 (by omega)).trans h.p, h.un.turned codeK_sets ht (fun q _ h1 h2 => (h.su q h1).1 h2), h.su, own_turned h.own ht (fun q hq => by have := (h.new q hq).1; omega), h.len, h.new, hr, h.lo⟩
theorem LiSt.more (h : LiSt w0 br ra rl rc bs w pb us ua uc S K xs a k c W) (hK : K ≤ K') : LiSt w0 br ra rl rc bs w pb us ua uc S K' xs a k c W := ⟨h.p, h.un, h.su, h.own, h.len, h.new, h.rd.more hK, h.lo⟩
theorem LiSt.put (h : LiSt w0 br ra rl rc bs w pb us ua uc S K xs a k c W) (hb : Below W.heap.size W W') {v : Int} {a' : Option Addr} {c' : Nat}
    (hr : w9.ownsRow 0 3 1 (.slice a' (k + 1) c') (k + 1) (xs.map (Value.int .i64) ++ [v].map (Value.int .i64))) (hg : W'.grownBy w9 (Value.slice a k c).ownBlock)
    (hl : (Value.slice a' (k + 1) c').ownBlock = (Value.slice a k c).ownBlock ∨ (Value.slice a' (k + 1) c').ownBlock = some W'.heap.size) : LiSt w0 br ra rl rc bs w pb us ua uc S K (xs ++ [v]) a' (k + 1) c' w9 := by
  have h1 := h.later hb
  have hlo := h.lo
  have hpl := (Array.getElem?_eq_some_iff.1 h1.p).1
  have ht : Turned (fun q => (Value.slice a k c).ownBlock = some q) W' w9 := turned_of_grown hg (fun k hk => hk)
  refine ⟨(ht.block _ hpl (fun e => (h.new _ e).2 rfl)).trans h1.p, h1.un.turned codeK_sets ht (fun q _ h3 h2 => by have := (h.su q h3).2; have := (h.new q h2).1; omega), h.su, by rw [List.map_append]; exact hr, by rw [List.length_append, List.length_singleton, h.len], fun q hq => ?_, h1.rd.stay ht (fun q hq => by have := (h.new q hq).1; omega) hlo.2.1, h.lo⟩
  rcases hl with e | e
  · exact h.new q (e ▸ hq)
  · rw [e] at hq
    cases hq
    omega
theorem LiSt.fin (h : LiSt w0 br ra rl rc bs w pb us ua uc S K xs a k c W) (hk : k ≤ 4) (hK : K ≤ K') :
    ∃ (xs : List Int) (a' : Option Addr) (c' : Nat), Ending.returned (.slice a k c) = .returned (.slice a' xs.length c') ∧ W.ownsRow 0 3 1 (.slice a' xs.length c') xs.length (xs.map (Value.int .i64)) ∧ (∀ q, (Value.slice a' xs.length c').ownBlock = some q → w.heap.size ≤ q) ∧ xs.length ≤ 4 ∧ RdAt w0 br ra rl rc bs K' w W := by
  obtain rfl := h.len
  exact ⟨xs, a, c, rfl, h.own, fun q hq => (h.new q hq).1, hk, h.rd.more hK⟩
/-- The last code's parameters. -/
theorem LiSt.last (h : LiSt w0 br ra rl rc bs w pb us ua uc S K xs a k c W) {m : Nat} {x : CodeD} (hx : us[m]? = some x) : ∃ g, ua = some ⟨g, 0, none⟩ ∧ W.cell? ⟨g, m * 3, none⟩ = some (.int .i64 x.params) := by
  have hj := (List.getElem?_eq_some_iff.1 hx).1
  rcases h.un.case with ⟨-, h0, -⟩ | ⟨g, rfl⟩
  · omega
  obtain ⟨x2, pre, d, post, F, hx2, hd, hm, hR, -⟩ := h.un.at codeK_sets hj
  rw [hx] at hx2
  cases hx2
  obtain ⟨ba, bc, rfl, -⟩ := hR
  exact ⟨g, rfl, hm.cell (q := 0) rfl⟩
end
section
variable {w0 w : World} {br : Nat} {ra : Option Addr} {rl rc : Nat} {bs : List Int} {K : Nat} {us : List CodeD} {ua : Option Addr} {uc : Nat} {S : Nat → Prop}
set_option maxRecDepth 100000 in
set_option maxHeartbeats 4000000 in
theorem l8In_any (hR : RdAt w0 br ra rl rc bs K w w) (hrl : rl ≤ 2000) (hK : K + 10 ≤ 1000000) (hU : SepK 3 37 CodeK S w ua us.length uc us) (hS : ∀ q, S q → q ≠ br ∧ q < w.heap.size) (hl : 1 ≤ us.length ∧ us.length ≤ 3) (hb : ∀ c ∈ us, BentU c) :
    Calls Try.prog 24 #[.pointer (some ⟨br, 0, none⟩), .agg #[.slice ua us.length uc]] w fun e w' => ∃ (xs : List Int) (a : Option Addr) (c : Nat), e = .returned (.slice a xs.length c) ∧ w'.ownsRow 0 3 1 (.slice a xs.length c) xs.length (xs.map (Value.int .i64)) ∧ (∀ q, (Value.slice a xs.length c).ownBlock = some q → w.heap.size ≤ q) ∧ xs.length ≤ 4 ∧ RdAt w0 br ra rl rc bs (K + 10) w w' := by
  obtain ⟨m, hm⟩ : ∃ m, us.length = m + 1 := ⟨us.length - 1, by omega⟩
  obtain ⟨x, hx⟩ : ∃ x, us[m]? = some x := ⟨_, List.getElem?_eq_getElem (by omega)⟩
  obtain ⟨P, hP⟩ : ∃ P : Nat, x.params = (P : Int) ∧ P ≤ 3 := by
    have := (hb x (List.mem_of_getElem? hx)).1
    exact ⟨x.params.toNat, by omega, by omega⟩
  have HS0 := Lib.hid (LiSt.start hR hU hS)
  have HX := Lib.hid hx
  have HP := Lib.hid hP
  have hP3 := hP.2
  have hul : (us.length : Int) > 0 := by omega
  have hul3 : (us.length : Int) ≤ 3 := by omega
  have hidx : (us.length : Int) - 1 = (m : Int) := by omega
  have hm0 : (0 : Int) ≤ (m : Int) := by omega
  have hml : (m : Int) < (us.length : Int) := by omega
  clear hR hU hS hb hx hP hl hm
  obtain ⟨g, hg, -⟩ := HS0.out.last HX.out
  subst hg
  go_enter Try.func24, Try.ntmps24
  go_upto_region 2 with fail
  obtain ⟨pb, hpb⟩ : ∃ b, b = w.heap.size := ⟨_, rfl⟩
  rw [← hpb] at HS0
  rw [← hpb]
  generalize (w.alloc (.cells #[.slice (some ⟨g, 0, none⟩) us.length uc] 25)).alloc (.cells #[] 3) = W2 at HS0 ⊢
  clear hpb
  go_wp2
  go_loopg [5, 6] P (fun F o i wr => ∃ k : Nat, k + F = P ∧ i = .int .i64 k ∧ ∃ xs a c, o = .slice a k c ∧ Hid (LiSt w0 br ra rl rc bs w pb us (some ⟨g, 0, none⟩) uc S (K + 2 * k) xs a k c wr))
  case atStart => exact ⟨0, by omega, rfl, [], _, 0, rfl, Lib.hid (HS0.out.more (by omega))⟩
  case round =>
    obtain ⟨k, hk, rfl, xs, a, c, rfl, HR⟩ := hrel
    clear HS0
    obtain ⟨g', hg', hc⟩ := HR.out.last HX.out
    cases hg'
    rw [HP.out.1] at hc
    have p0 := cell_of_row _ _ 0 _ _ _ HR.out.p
    simp only [List.getElem?_toArray, List.getElem?_cons_zero] at p0
    by_cases hlt : k < P
    · have hki : (k : Int) < (P : Int) := by omega
      go_upto_region 5 with fail
      clear p0 hc
      go_wp2_with fail
      refine (pickR HR.out.rd hrl (by omega) (n := 256) (by omega)).mono ?_
      rintro e w3 ⟨v, rfl, hv, hR3, hg3⟩
      have H3 := Lib.hid (HR.out.drew hg3 hR3)
      have hba : Below w3.heap.size w3 (w3.alloc (.cells (([0, 1, 2, 3, 7, 16, 255, v] : List Int).map (Value.int .i64)).toArray 3)) := (Below.refl _ _).alloc (Nat.le_refl _) _
      have HNM := Lib.hid (numR (H3.out.later hba).rd hrl (by omega) (g := w3.heap.size) (n := 8) (c := 8) (xs := [0, 1, 2, 3, 7, 16, 255, v]) ⟨rfl, rowAt_of_own (World.ownsRow_lit (base := 0) (size := 1) w3 _ 8 (Nat.zero_le _) (by decide) rfl)⟩ (by have := H3.out.rd.lt; omega) (by omega))
      have HBA := Lib.hid hba
      clear hv hR3 hg3 hba
      go_wp2_with fail
      refine HNM.out.mono ?_
      rintro e w4 ⟨v2, rfl, hv2, hR4, hg4⟩
      have H4 := Lib.hid ((H3.out.later HBA.out).drew hg4 hR4)
      clear hv2 hR4 hg4 HNM HBA H3
      go_wp2_with (at_builtin; refine app_ints rfl (.tmp 27) (.tmp 33) rfl 0 _ k _ rfl (ownsRow_below H4.out.own ((Below.refl _ _).alloc (Nat.le_refl _) _)) _ 1 1 [v2] rfl rfl (rowAt_one _ _ _) (by rintro ⟨⟩) (by omega) (Nat.zero_le _) ?_; intro a9 c9 w9 hown9 hg9 hlies9; (have HP9 := Lib.hid (H4.out.put ((Below.refl _ _).alloc (Nat.le_refl _) _) hown9 hg9 hlies9)); clear hown9 hg9 hlies9)
      have HN := Lib.hid (HP9.out.more (K' := K + 2 * (k + 1)) (by omega))
      clear HP9 H4 HR
      go_roundg (P - (k + 1))
      case measure => omega
      case rel => exact ⟨k + 1, by omega, by go_num, _, _, _, rfl, HN⟩
    · obtain rfl : k = P := by omega
      have hki : ¬ (k : Int) < (k : Int) := by omega
      go_upto_region 6 with fail
      clear p0 hc
      go_wp2_with fail
      refine (pickR HR.out.rd hrl (by omega) (n := 40) (by omega)).mono ?_
      rintro e w3 ⟨v, rfl, hv, hR3, hg3⟩
      have H3 := Lib.hid ((HR.out.drew hg3 hR3).more (K' := K + 7) (by omega))
      clear hv hR3 hg3 HR
      by_cases hv0 : v = 0
      · have hvb : (v == 0) = true := by rw [beq_iff_eq]; exact hv0
        have hba : Below w3.heap.size w3 (w3.alloc (.cells (([0, 256] : List Int).map (Value.int .i64)).toArray 3)) := (Below.refl _ _).alloc (Nat.le_refl _) _
        have HNM := Lib.hid (numR (H3.out.later hba).rd hrl (by omega) (g := w3.heap.size) (n := 2) (c := 2) (xs := [0, 256]) ⟨rfl, rowAt_of_own (World.ownsRow_lit (base := 0) (size := 1) w3 _ 2 (Nat.zero_le _) (by decide) rfl)⟩ (by have := H3.out.rd.lt; omega) (by omega))
        have HBA := Lib.hid hba
        clear hba hv0
        go_wp2_with fail
        refine HNM.out.mono ?_
        rintro e w4 ⟨v2, rfl, hv2, hR4, hg4⟩
        have H4 := Lib.hid ((H3.out.later HBA.out).drew hg4 hR4)
        clear hv2 hR4 hg4 HNM HBA H3
        go_wp2_with (at_builtin; refine app_ints rfl (.tmp 38) (.tmp 42) rfl 0 _ k _ rfl (ownsRow_below H4.out.own ((Below.refl _ _).alloc (Nat.le_refl _) _)) _ 1 1 [v2] rfl rfl (rowAt_one _ _ _) (by rintro ⟨⟩) (by omega) (Nat.zero_le _) ?_; intro a9 c9 w9 hown9 hg9 hlies9; (have HP9 := Lib.hid (H4.out.put ((Below.refl _ _).alloc (Nat.le_refl _) _) hown9 hg9 hlies9)); clear hown9 hg9 hlies9)
        go_ret
        exact HP9.out.fin (by omega) (by omega)
      · have hvb : (v == 0) = false := by rw [beq_eq_false_iff_ne]; exact hv0
        clear hv0
        go_wp2
        go_ret
        exact H3.out.fin (by omega) (by omega)
end
/-- A unit and its reader, before the numbers are drawn. -/
structure RuSt (w0 : World) (br : Nat) (ra : Option Addr) (rl rc : Nat) (bs : List Int) (w : World) (ub rb : Nat) (us : List CodeD) (ua : Option Addr) (uc : Nat) (S : Nat → Prop) (K : Nat) (W : World) : Prop where
  u : W.heap[ub]? = some (.cells #[.slice ua us.length uc] 25 (0, 0))
  r : W.heap[rb]? = some (.cells #[.slice none 0 0] 25 (0, 0))
  un : SepK 3 37 CodeK S W ua us.length uc us
  su : ∀ q, S q → q ≠ br ∧ q ≠ ub ∧ q ≠ rb ∧ q < W.heap.size ∧ w.heap.size ≤ q
  rd : RdAt w0 br ra rl rc bs K W W
  below : Below w.heap.size w W
  lo : br ≠ ub ∧ br ≠ rb ∧ ub ≠ rb ∧ w.heap.size ≤ br ∧ w.heap.size ≤ ub ∧ w.heap.size ≤ rb ∧ w0.heap.size ≤ ub
  len : 1 ≤ us.length ∧ us.length ≤ 3
  small : ∀ c ∈ us, BentU c
section
variable {w0 w W W' W1 w2 w3 w4 : World} {br : Nat} {ra : Option Addr} {rl rc : Nat} {bs : List Int} {ub rb : Nat} {us : List CodeD} {ua : Option Addr} {uc : Nat} {S : Nat → Prop} {K K' : Nat}
theorem RuSt.later (h : RuSt w0 br ra rl rc bs w ub rb us ua uc S K W) (hb : Below W.heap.size W W') : RuSt w0 br ra rl rc bs w ub rb us ua uc S K W' :=
  ⟨(hb.block _ (Array.getElem?_eq_some_iff.1 h.u).1).trans h.u, (hb.block _ (Array.getElem?_eq_some_iff.1 h.r).1).trans h.r, h.un.below codeK_sets hb, fun q hq => by have := h.su q hq; have := hb.size; omega, ⟨(h.rd.later hb).rd, Turned.refl _ _⟩, h.below.trans (hb.mono h.below.size), h.lo, h.len, h.small⟩
theorem RuSt.over (h : RuSt w0 br ra rl rc bs w ub rb us ua uc S K W) (hr : RdAt w0 br ra rl rc bs K' W W') : RuSt w0 br ra rl rc bs w ub rb us ua uc S K' W' := by
  have ht := hr.turned
  have hl := h.lo
  exact ⟨(ht.block _ (Array.getElem?_eq_some_iff.1 h.u).1 (by omega)).trans h.u, (ht.block _ (Array.getElem?_eq_some_iff.1 h.r).1 (by omega)).trans h.r, h.un.turned codeK_sets ht (fun q _ h1 h2 => (h.su q h1).1 h2), fun q hq => by have := h.su q hq; have := ht.size; omega, ⟨hr.rd, Turned.refl _ _⟩, h.below.trans (ht.below h.below.size (fun k hk => by omega)), h.lo, h.len, h.small⟩
theorem RuSt.more (h : RuSt w0 br ra rl rc bs w ub rb us ua uc S K W) (hK : K ≤ K') : RuSt w0 br ra rl rc bs w ub rb us ua uc S K' W := ⟨h.u, h.r, h.un, h.su, h.rd.more hK, h.below, h.lo, h.len, h.small⟩
theorem RuSt.start {us : List CodeD} {ua : Option Addr} {uc : Nat} (hw : Below w.heap.size w W1) (hr : W1.heap[rb]? = some (.cells #[.slice none 0 0] 25 (0, 0))) (hrb : w.heap.size ≤ rb) (hb2 : Below W1.heap.size W1 w2) (hbr : W1.heap.size ≤ br ∧ br < w2.heap.size)
    (hk : SepK 3 37 CodeK (fun k => w2.heap.size ≤ k) w3 ua us.length uc us) (hl : 1 ≤ us.length ∧ us.length ≤ 3) (hs : ∀ c ∈ us, BentU c) (h3 : RdAt w0 br ra rl rc bs K w2 w3) :
    RuSt w0 br ra rl rc bs w w3.heap.size rb us ua uc (fun q => w2.heap.size ≤ q ∧ q < w3.heap.size) K (w3.alloc (.cells #[.slice ua us.length uc] 25)) := by
  have hba : Below w3.heap.size w3 (w3.alloc (.cells #[.slice ua us.length uc] 25)) := (Below.refl _ _).alloc (Nat.le_refl _) _
  have h1 := (Array.getElem?_eq_some_iff.1 hr).1
  have s2 := hb2.size
  have s3 := h3.turned.size
  have s1 := hw.size
  have hr3 := (h3.turned.block rb (by omega) (by omega)).trans ((hb2.block rb h1).trans hr)
  have hw3 : Below w.heap.size w w3 := (hw.trans (hb2.mono s1)).trans (h3.turned.below (B := w.heap.size) (by omega) (fun k hk => by omega))
  exact ⟨heap_alloc_new _ _, (hba.block rb (by omega)).trans hr3, (hk.here codeK_sets).below codeK_sets hba, fun q hq => by rw [World.size_alloc]; omega, ⟨(h3.later hba).rd, Turned.refl _ _⟩, hw3.trans (hba.mono (by omega)), by have := h3.base.size; omega, hl, hs⟩
theorem RuSt.bent {us' : List CodeD} {ua' : Option Addr} {uc' : Nat} (h : RuSt w0 br ra rl rc bs w ub rb us ua uc S K W) (hk : SepK 3 37 CodeK (fun k => W.heap.size ≤ k) w4 ua' us'.length uc' us') (hl : 1 ≤ us'.length ∧ us'.length ≤ 3) (hs : ∀ c ∈ us', BentU c) (h4 : RdAt w0 br ra rl rc bs K' W w4) :
    w4.heap[ub]? = some (.cells #[.slice ua us.length uc] 25 (0, 0)) ∧ RuSt w0 br ra rl rc bs w ub rb us' ua' uc' (fun q => W.heap.size ≤ q ∧ q < w4.heap.size) K' (w4.setCell ⟨ub, 0, none⟩ (.slice ua' us'.length uc')) := by
  have hl0 := h.lo
  have hts := turned_store w4 ub 0 (.slice ua' us'.length uc')
  have ho := h.over h4
  have a1 := (Array.getElem?_eq_some_iff.1 h.u).1
  have a2 := (Array.getElem?_eq_some_iff.1 h.r).1
  have a3 := h.rd.lt.1
  have hbw := (ho.rd.rd)
  refine ⟨ho.u, (heap_setCell_same w4 ub 0 _ _ _ ho.u).trans rfl, (hts.block _ (Array.getElem?_eq_some_iff.1 ho.r).1 (by omega)).trans ho.r, (hk.here codeK_sets).turned codeK_sets hts (fun q _ h1 h2 => by have h2 : q = ub := h2; omega), fun q hq => by rw [World.size_setCell]; have := h.below.size; omega, ⟨?_, Turned.refl _ _⟩, ho.below.setCell (show w.heap.size ≤ ub by omega) _, h.lo, hl, hs⟩
  obtain ⟨p, hp, hr⟩ := ho.rd.rd
  have hb0 := hr.below.size
  have hub0 : w0.heap.size ≤ ub := hl0.2.2.2.2.2.2
  exact ⟨p, hp, hr.bytes, hr.below.setCell hub0 _, hr.base, (hts.block _ hr.lt (by omega)).trans hr.blk⟩
end

theorem results_cellR1 {P : Program} {fn : Func} {p u : Tmp} {ty : TypeId} (h : fn.results = #[.cell p ty, .tmp u]) (tmps : Array Value) (w : World) (g : Nat) (t : TypeId) (cs : Array Value) (fr : Nat × Nat) (d : TypeDesc)
    (hp : tmps.getD p undef = .pointer (some ⟨g, 0, none⟩)) (hg : w.heap[g]? = some (.cells cs t fr))
    (hu : P.underlying ty = some d) (hd : (match d with | .struct _ | .array _ _ => true | _ => false) = true) (hi : (P.info? ty).map (·.size) = some cs.size) :
    (results fn tmps).run P w = .ok (.tuple #[.agg cs, tmps.getD u undef]) w := by
  rw [results_cell_tmp h, hp]
  simp [asAddr, run_loadVar_row w g t ty cs fr d hg hu hd hi]
theorem results_cellR2 {P : Program} {fn : Func} {p u u2 : Tmp} {ty : TypeId} (h : fn.results = #[.cell p ty, .tmp u, .tmp u2]) (tmps : Array Value) (w : World) (g : Nat) (t : TypeId) (cs : Array Value) (fr : Nat × Nat) (d : TypeDesc)
    (hp : tmps.getD p undef = .pointer (some ⟨g, 0, none⟩)) (hg : w.heap[g]? = some (.cells cs t fr))
    (hu : P.underlying ty = some d) (hd : (match d with | .struct _ | .array _ _ => true | _ => false) = true) (hi : (P.info? ty).map (·.size) = some cs.size) :
    (results fn tmps).run P w = .ok (.tuple #[.agg cs, tmps.getD u undef, tmps.getD u2 undef]) w := by
  have h2 : (results fn tmps).run P w = ((asAddr (tmps.getD p undef)).run P w).andThen fun a w₁ => ((loadVar ty a).run P w₁).andThen fun v w₂ => .ok (.tuple #[v, tmps.getD u undef, tmps.getD u2 undef]) w₂ := by
    simp only [results, h]
    simp [Sem.run_bind, Result.andThen]
  rw [h2, hp]
  simp [asAddr, run_loadVar_row w g t ty cs fr d hg hu hd hi]
/-- The unit, its reader and the numbers. -/
structure RiSt (w0 : World) (br : Nat) (ra : Option Addr) (rl rc : Nat) (bs : List Int) (w : World) (ub rb : Nat) (us : List CodeD) (ua : Option Addr) (uc : Nat) (S : Nat → Prop) (K : Nat) (xs : List Int) (ia : Option Addr) (ic : Nat) (W : World) : Prop where
  ru : RuSt w0 br ra rl rc bs w ub rb us ua uc S K W
  own : W.ownsRow 0 3 1 (.slice ia xs.length ic) xs.length (xs.map (Value.int .i64))
  new : ∀ q, (Value.slice ia xs.length ic).ownBlock = some q → q ≠ br ∧ q ≠ rb ∧ w.heap.size ≤ q
  il : xs.length ≤ 4
section
variable {w0 w W W' : World} {br : Nat} {ra : Option Addr} {rl rc : Nat} {bs : List Int} {ub rb : Nat} {us : List CodeD} {ua : Option Addr} {uc : Nat} {S : Nat → Prop} {K K' : Nat} {xs : List Int} {ia : Option Addr} {ic : Nat}
theorem RiSt.later (h : RiSt w0 br ra rl rc bs w ub rb us ua uc S K xs ia ic W) (hb : Below W.heap.size W W') : RiSt w0 br ra rl rc bs w ub rb us ua uc S K xs ia ic W' := ⟨h.ru.later hb, ownsRow_below h.own hb, h.new, h.il⟩
theorem RiSt.over (h : RiSt w0 br ra rl rc bs w ub rb us ua uc S K xs ia ic W) (hr : RdAt w0 br ra rl rc bs K' W W') : RiSt w0 br ra rl rc bs w ub rb us ua uc S K' xs ia ic W' :=
  ⟨h.ru.over hr, own_turned h.own hr.turned (fun q hq => (h.new q hq).1), h.new, h.il⟩
theorem RuSt.ins (h : RuSt w0 br ra rl rc bs w ub rb us ua uc S K W) (hrl : rl ≤ 2000) (hK : K + 10 ≤ 1000000) :
    Calls Try.prog 24 #[.pointer (some ⟨br, 0, none⟩), .agg #[.slice ua us.length uc]] W fun e w' => ∃ (xs : List Int) (a : Option Addr) (c : Nat), e = .returned (.slice a xs.length c) ∧ RdAt w0 br ra rl rc bs (K + 10) W w' ∧ RiSt w0 br ra rl rc bs w ub rb us ua uc S (K + 10) xs a c w' := by
  refine (l8In_any h.rd hrl hK h.un (fun q hq => ⟨(h.su q hq).1, (h.su q hq).2.2.2.1⟩) h.len h.small).mono ?_
  rintro e w' ⟨xs, a, c, rfl, hown, hnew, hl, hr⟩
  have h1 := h.rd.lt.1
  have h2 := (Array.getElem?_eq_some_iff.1 h.r).1
  exact ⟨xs, a, c, rfl, hr, h.over hr, hown, fun q hq => by have := hnew q hq; have := h.below.size; omega, hl⟩
/-- A unit and numbers that were drawn, in new blocks. -/
structure DrewK (w w' : World) (us : List CodeD) (ua : Option Addr) (uc : Nat) (inp : List Int) (ia : Option Addr) (ic : Nat) : Prop where
  u : SepK 3 37 CodeK (fun k => w.heap.size ≤ k) w' ua us.length uc us
  sz : szS szCodeD us ≤ 1048576
  own : w'.ownsRow 0 3 1 (.slice ia inp.length ic) inp.length (inp.map (Value.int .i64))
  new : ∀ q, (Value.slice ia inp.length ic).ownBlock = some q → w.heap.size ≤ q
  il : inp.length ≤ 1048576
  below : Below w.heap.size w w'
theorem BentU.szU (hl : us.length ≤ 3) (hs : ∀ c ∈ us, BentU c) : szS szCodeD us ≤ 1048576 := by
  have h1 : ∀ l : List CodeD, (∀ c ∈ l, BentU c) → sumOf szCodeD l ≤ 400 * l.length := by
    intro l
    induction l with
    | nil => intro _; simp [sumOf]
    | cons y l ih =>
      intro h
      have h1 := (h y (List.mem_cons_self ..)).2
      have h2 := ih (fun z hz => h z (List.mem_cons_of_mem _ hz))
      simp only [sumOf, List.map_cons, List.sum_cons, List.length_cons] at h2 ⊢
      omega
  have h2 := h1 us hs
  simp only [szS]
  omega
theorem RiSt.fin (h : RiSt w0 br ra rl rc bs w ub rb us ua uc S K xs ia ic W) : DrewK w (W.setCell ⟨rb, 0, none⟩ (.slice ua us.length uc)) us ua uc xs ia ic := by
  have hts := turned_store W rb 0 (.slice ua us.length uc)
  exact ⟨(h.ru.un.turned codeK_sets hts (fun q _ h1 h2 => (h.ru.su q h1).2.2.1 h2)).mono (fun q hq => (h.ru.su q hq).2.2.2.2), BentU.szU h.ru.len.2 h.ru.small, own_turned h.own hts (fun q hq => (h.new q hq).2.1), fun q hq => (h.new q hq).2.2, by have := h.il; omega, h.ru.below.setCell (show w.heap.size ≤ rb from h.ru.lo.2.2.2.2.2.1) _⟩
/-- What was drawn, behind a store into what is older. -/
theorem DrewK.put {W1 : World} {inp : List Int} (h : DrewK W1 W us ua uc inp ia ic) (hw : Below w.heap.size w W1) (hrb : w.heap.size ≤ rb ∧ rb < W1.heap.size) : DrewU w (W.setCell ⟨rb, 0, none⟩ (.slice ua us.length uc)) us ua inp ia := by
  have hts := turned_store W rb 0 (.slice ua us.length uc)
  exact ⟨(h.u.turned codeK_sets hts (fun q _ h1 h2 => by have h2 : q = rb := h2; omega)).rd codeK_rd, h.sz, ⟨rfl, rowAt_of_own (own_turned h.own hts (fun q hq => by have := h.new q hq; omega))⟩, h.il, (hw.trans (h.below.mono hw.size)).setCell hrb.1 _⟩
end
section
set_option maxRecDepth 100000 in
set_option maxHeartbeats 8000000 in
theorem drawRun_any (hC : CopyBlkC) (w : World) (a : Option Addr) (len cap : Nat) (zs : List Int) (hin : BytesRd w a len zs) (hcap : len ≤ cap) :
    Calls Try.prog 14 #[.slice a len cap] w fun e w' => ∃ us ua uc inp ia ic st, e = .returned (.tuple #[.agg #[.slice ua us.length uc], .slice ia inp.length ic, .int .i64 st]) ∧ DrewK w w' us ua uc inp ia ic := by
  have hb0 : Below w.heap.size w (w.alloc (.cells #[.slice none 0 0] 25)) := (Below.refl _ _).alloc (Nat.le_refl _) _
  have HCB := Lib.hid hC
  have HB := Lib.hid (And.intro hb0 (And.intro (heap_alloc_new w (.cells #[.slice none 0 0] 25)) (And.intro (hin.later hb0) (World.size_alloc w (.cells #[.slice none 0 0] 25)))))
  clear hb0 hin hC
  go_enter Try.func14, Try.ntmps14
  go_upto_region 1 with fail
  obtain ⟨rb, hrb⟩ : ∃ b, b = w.heap.size := ⟨_, rfl⟩
  rw [← hrb]
  generalize w.alloc (.cells #[.slice none 0 0] 25) = W1 at HB ⊢
  have HRB := Lib.hid (show w.heap.size ≤ rb ∧ W1.heap[rb]? = some (.cells #[.slice none 0 0] 25 (0, 0)) from ⟨by omega, by rw [hrb]; exact HB.out.2.1⟩)
  clear hrb
  go_wp2_with fail
  refine (open_any W1 a len cap zs HB.out.2.2.1 hcap).mono ?_
  rintro e w2 ⟨ra, rl, rc, bs, rfl, hrd2, hrl, hsz2⟩
  obtain ⟨br, hbr⟩ : ∃ b, b = W1.heap.size := ⟨_, rfl⟩
  rw [← hbr] at hrd2 hsz2 ⊢
  have HR2 := Lib.hid (show RdAt W1 br ra rl rc bs 0 w2 w2 ∧ Below W1.heap.size W1 w2 ∧ (W1.heap.size ≤ br ∧ br < w2.heap.size) from ⟨⟨⟨0, Nat.le_refl _, hrd2⟩, Turned.refl _ _⟩, hrd2.below, by omega, hrd2.lt⟩)
  clear hbr hrd2 hsz2 hcap
  have HU2 := Lib.hid (l7Unit_any HR2.out.1 hrl (by omega))
  go_wp2_with fail
  refine HU2.out.mono ?_
  rintro e w3 ⟨us, ua, uc, rfl, hk3, hl3, hs3, hR3⟩
  have HU3 := Lib.hid (RuSt.start HB.out.1 HRB.out.2 HRB.out.1 HR2.out.2.1 HR2.out.2.2 hk3 hl3 (fun c hc => (hs3 c hc).bentU (by decide)) hR3)
  clear hk3 hl3 hs3 hR3 HU2
  go_upto_region 3 with fail
  obtain ⟨ub, hub⟩ : ∃ b, b = w3.heap.size := ⟨_, rfl⟩
  obtain ⟨S, hSd⟩ : ∃ S, S = (fun q => w2.heap.size ≤ q ∧ q < w3.heap.size) := ⟨_, rfl⟩
  rw [← hSd, ← hub] at HU3
  rw [← hub]
  generalize w3.alloc (.cells #[.slice ua us.length uc] 25) = w4 at HU3 ⊢
  clear hub hSd
  go_wp2_with fail
  refine (pickR HU3.out.rd hrl (by omega) (n := 10) (by omega)).mono ?_
  rintro e w5 ⟨v, rfl, hv, hR5, hg5⟩
  have HU5 := Lib.hid (HU3.out.over hR5)
  clear hv hR5 hg5 HU3
  by_cases hv0 : v = 0
  case' pos =>
    have hvb : (v == 0) = true := by rw [beq_iff_eq]; exact hv0
    clear hv0
    have HBT := Lib.hid (l7Bent_any HCB.out HU5.out.rd hrl (by omega))
    go_wp2_with fail
    refine HBT.out.mono ?_
    rintro e w6 ⟨us6, ua6, uc6, rfl, hk6, hl6, hs6, hR6⟩
    obtain ⟨hu6, hU6⟩ := HU5.out.bent hk6 hl6 hs6 hR6
    have r0 := cell_of_row _ _ 0 _ _ _ hu6
    have y0 := frozen_of_row _ _ 0 _ _ hu6
    simp only [List.getElem?_toArray, List.getElem?_cons_zero] at r0
    have HUF := Lib.hid (show ∃ us ua uc S, RuSt W1 br ra rl rc bs w ub rb us ua uc S 3000 (w6.setCell ⟨ub, 0, none⟩ (.slice ua6 us6.length uc6)) from ⟨_, _, _, _, hU6.more (by omega)⟩)
    clear hk6 hl6 hs6 hR6 hu6 hU6 HBT HU5
    go_upto_region 5 with fail
    generalize w6.setCell ⟨ub, 0, none⟩ (.slice ua6 us6.length uc6) = w9 at HUF ⊢
    clear r0 y0
  case' neg =>
    have hvb : (v == 0) = false := by rw [beq_eq_false_iff_ne]; exact hv0
    have HUF := Lib.hid (show ∃ us ua uc S, RuSt W1 br ra rl rc bs w ub rb us ua uc S 3000 w5 from ⟨us, ua, uc, S, HU5.out.more (by omega)⟩)
    clear hv0 HU5
    go_upto_region 5 with fail
    generalize w5 = w9 at HUF ⊢
  all_goals
    obtain ⟨us, ua, uc, S, hUF⟩ := HUF.out
    have HU10 := Lib.hid (hUF.later (Below.refl w9.heap.size w9).drew)
    clear hUF HUF
    refine wp_region_L (S := fun W : World => W.cell? ⟨ub, 0, none⟩ = some (Value.slice ua us.length uc)) (by kernel_rfl) ?_
    have hHeld : (fun W : World => W.cell? ⟨ub, 0, none⟩ = some (Value.slice ua us.length uc)) _ := cell_of_row _ _ 0 _ _ _ HU10.out.u
    generalize w9.drew = w10 at HU10 hHeld ⊢
    refine wpAnyL_take 7 (i := 0) (oi := ⟨some 16, _, _, _, _, _⟩) (v := ?_) rfl (by kernel_rfl) (by kernel_rfl) (by kernel_rfl) (by kernel_rfl) (fun _ _ _ h => h) (Or.inl ⟨by rfl, ?_⟩) hHeld ?_
    rotate_left
    · (intro w hSw; (try dsimp only at hSw); go_simp; all_goals (try with_reducible rfl))
    (try simp only [Act.put, List.setIfInBounds_toArray, List.set_cons_zero, List.set_cons_succ])
    refine wpAnyL_take 3 (i := 1) (oi := ⟨some 17, _, _, _, _, _⟩) (v := ?_) rfl (by kernel_rfl) (by kernel_rfl) (by kernel_rfl) (by kernel_rfl) (fun _ _ _ h => h) (Or.inl ⟨by rfl, ?_⟩) hHeld ?_
    rotate_left
    · (intro w hSw; (try dsimp only at hSw); go_simp; all_goals (try with_reducible rfl))
    (try simp only [Act.put, List.setIfInBounds_toArray, List.set_cons_zero, List.set_cons_succ])
    refine wpAnyL_take 3 (i := 2) (oi := ⟨some 18, _, _, _, _, _⟩) (v := ?_) rfl (by kernel_rfl) (by kernel_rfl) (by kernel_rfl) (by kernel_rfl) (fun _ _ _ h => h) (Or.inl ⟨by rfl, ?_⟩) hHeld ?_
    rotate_left
    · (intro w hSw; (try dsimp only at hSw); go_simp; all_goals (try with_reducible rfl))
    (try simp only [Act.put, List.setIfInBounds_toArray, List.set_cons_zero, List.set_cons_succ])
    refine wpAnyL_take 6 (i := 4) (oi := ⟨some 20, _, _, _, _, _⟩) (v := ?_) rfl (by kernel_rfl) (by kernel_rfl) (by kernel_rfl) (by kernel_rfl) (fun _ _ _ h => h) (Or.inl ⟨by rfl, ?_⟩) hHeld ?_
    rotate_left
    · (intro w hSw; (try dsimp only at hSw); go_simp; all_goals (try with_reducible rfl))
    (try simp only [Act.put, List.setIfInBounds_toArray, List.set_cons_zero, List.set_cons_succ])
    refine wpAnyL_ready (rs := [3, 5]) (by kernel_rfl) (by simp) ?_
    refine AllReadyL.cons (o := ⟨some 19, _, _, _, _, _⟩) rfl (fun K hK => ?_) (AllReadyL.cons (o := ⟨some 21, _, _, _, _, _⟩) rfl (fun K hK => ?_) AllReadyL.nil)
    · go_simp
      go_at_call 24
      refine (RuSt.ins HU10.out hrl (by omega)).mono ?_
      rintro e w11 ⟨xs, ia, ic, rfl, hR11, hI11⟩
      have HI11 := Lib.hid hI11
      have HR11 := Lib.hid hR11
      clear hI11 hR11
      have hHeld2 : (fun W : World => W.cell? ⟨ub, 0, none⟩ = some (Value.slice ua us.length uc)) _ := cell_of_row _ _ 0 _ _ _ HI11.out.ru.u
      refine hK.out _ _ (fun _ => hHeld2) ?_
      clear hK K hHeld
      have hHeld := hHeld2
      clear hHeld2
      (try simp only [Act.put, List.setIfInBounds_toArray, List.set_cons_zero, List.set_cons_succ])
      refine wpAnyL_ready (rs := [5]) (by kernel_rfl) (by simp) ?_
      refine AllReadyL.cons (o := ⟨some 21, _, _, _, _, _⟩) rfl (fun K hK => ?_) AllReadyL.nil
      go_simp
      have HBA := Lib.hid (show Below w11.heap.size w11 (w11.alloc (.cells #[.int .i64 300, .int .i64 300, .int .i64 50, .int .i64 8, .int .i64 3, .int .i64 1, .int .i64 0, .int .i64 2000, .int .i64 (-1), .int .i64 60001] 3)) from (Below.refl _ _).alloc (Nat.le_refl _) _)
      have HLO := Lib.hid (show (w11.alloc (.cells #[.int .i64 300, .int .i64 300, .int .i64 50, .int .i64 8, .int .i64 3, .int .i64 1, .int .i64 0, .int .i64 2000, .int .i64 (-1), .int .i64 60001] 3)).ownsRow 0 3 1 (.slice (some ⟨w11.heap.size, 0, none⟩) 10 10) 10 (([300, 300, 50, 8, 3, 1, 0, 2000, -1, 60001] : List Int).map (Value.int .i64)) from World.ownsRow_lit (base := 0) (size := 1) w11 _ 10 (Nat.zero_le _) (by decide) rfl)
      have HI12 := Lib.hid (HI11.out.later HBA.out)
      have hHeld2 : (fun W : World => W.cell? ⟨ub, 0, none⟩ = some (Value.slice ua us.length uc)) _ := cell_of_row _ _ 0 _ _ _ HI12.out.ru.u
      refine hK.out _ _ (fun _ => hHeld2) ?_
      clear hK K hHeld
      have hHeld := hHeld2
      clear hHeld2
      (try simp only [Act.put, List.setIfInBounds_toArray, List.set_cons_zero, List.set_cons_succ])
      have HNM := Lib.hid (numR HI12.out.ru.rd hrl (by omega) (g := w11.heap.size) (n := 10) (c := 10) (xs := [300, 300, 50, 8, 3, 1, 0, 2000, -1, 60001]) ⟨rfl, rowAt_of_own HLO.out⟩ (by have := HI11.out.ru.rd.lt.1; omega) (by omega))
      refine wpAnyL_ready (rs := [6]) (by kernel_rfl) (by simp) ?_
      refine AllReadyL.cons (o := ⟨some 22, _, _, _, _, _⟩) rfl (fun K hK => ?_) AllReadyL.nil
      go_simp
      go_at_call 25
      refine HNM.out.mono ?_
      rintro e w13 ⟨v13, rfl, hv13, hR13, hg13⟩
      have HI13 := Lib.hid (HI12.out.over hR13)
      clear hv13 hR13 hg13
      have hHeld2 : (fun W : World => W.cell? ⟨ub, 0, none⟩ = some (Value.slice ua us.length uc)) _ := cell_of_row _ _ 0 _ _ _ HI13.out.ru.u
      refine hK.out _ _ (fun _ => hHeld2) ?_
      clear hK K hHeld
      have hHeld := hHeld2
      clear hHeld2
      (try simp only [Act.put, List.setIfInBounds_toArray, List.set_cons_zero, List.set_cons_succ])
      refine wpAnyL_ready (rs := [7]) (by kernel_rfl) (by simp) ?_
      refine AllReadyL.cons (o := ⟨none, _, _, _, _, _⟩) rfl (fun K hK => ?_) AllReadyL.nil
      have y0 := frozen_of_row _ _ 0 _ _ HI13.out.ru.r
      have r0 := cell_of_row _ _ 0 _ _ _ HI13.out.ru.r
      simp only [List.getElem?_toArray, List.getElem?_cons_zero, List.getElem?_cons_succ] at r0
      go_simp
      clear y0 r0
      have hrow13 := (turned_store w13 rb 0 (.slice ua us.length uc)).block ub (Array.getElem?_eq_some_iff.1 HI13.out.ru.u).1 (by have := HI13.out.ru.lo; omega)
      have hHeld2 : (fun W : World => W.cell? ⟨ub, 0, none⟩ = some (Value.slice ua us.length uc)) _ := cell_of_row _ _ 0 _ _ _ (hrow13.trans HI13.out.ru.u)
      refine hK.out _ _ (fun _ => hHeld2) ?_
      clear hK K hHeld
      have hHeld := hHeld2
      clear hHeld2
      (try simp only [Act.put, List.setIfInBounds_toArray, List.set_cons_zero, List.set_cons_succ])
      refine wpAnyL_ready (rs := [8]) (by kernel_rfl) (by simp) ?_
      refine AllReadyL.cons (o := ⟨some 3, _, _, _, _, _⟩) rfl (fun K hK => ?_) AllReadyL.nil
      go_simp
      have hHeld2 : (fun W : World => W.cell? ⟨ub, 0, none⟩ = some (Value.slice ua us.length uc)) _ := hHeld
      refine hK.out _ _ (fun _ => hHeld2) ?_
      clear hK K hHeld
      have hHeld := hHeld2
      clear hHeld2
      (try simp only [Act.put, List.setIfInBounds_toArray, List.set_cons_zero, List.set_cons_succ])
      refine wpAnyL_ready (rs := [9]) (by kernel_rfl) (by simp) ?_
      refine AllReadyL.cons (o := ⟨some 4, _, _, _, _, _⟩) rfl (fun K hK => ?_) AllReadyL.nil
      go_simp
      refine hK.out _ _ (lastL (by kernel_rfl)) ?_
      clear hK K hHeld
      (try simp only [Act.put, List.setIfInBounds_toArray, List.set_cons_zero, List.set_cons_succ])
      refine wpAnyL_done (by kernel_rfl) ?_ _
      clear hrow13
      go_wp2
      refine bodyPost_ret (results_cellR2 rfl _ _ rb 25 #[.slice ua us.length uc] (0, 0) _ rfl ?_ Try.underlying25 rfl (by kernel_rfl)) rfl ?_
      · exact (heap_setCell_same w13 rb 0 _ _ _ HI13.out.ru.r).trans rfl
      · exact ⟨us, ua, uc, xs, ia, ic, v13, rfl, HI13.out.fin⟩
    · go_simp
      have HBA := Lib.hid (show Below w10.heap.size w10 (w10.alloc (.cells #[.int .i64 300, .int .i64 300, .int .i64 50, .int .i64 8, .int .i64 3, .int .i64 1, .int .i64 0, .int .i64 2000, .int .i64 (-1), .int .i64 60001] 3)) from (Below.refl _ _).alloc (Nat.le_refl _) _)
      have HLO := Lib.hid (show (w10.alloc (.cells #[.int .i64 300, .int .i64 300, .int .i64 50, .int .i64 8, .int .i64 3, .int .i64 1, .int .i64 0, .int .i64 2000, .int .i64 (-1), .int .i64 60001] 3)).ownsRow 0 3 1 (.slice (some ⟨w10.heap.size, 0, none⟩) 10 10) 10 (([300, 300, 50, 8, 3, 1, 0, 2000, -1, 60001] : List Int).map (Value.int .i64)) from World.ownsRow_lit (base := 0) (size := 1) w10 _ 10 (Nat.zero_le _) (by decide) rfl)
      have HU12 := Lib.hid (HU10.out.later HBA.out)
      have hHeld2 : (fun W : World => W.cell? ⟨ub, 0, none⟩ = some (Value.slice ua us.length uc)) _ := cell_of_row _ _ 0 _ _ _ HU12.out.u
      refine hK.out _ _ (fun _ => hHeld2) ?_
      clear hK K hHeld
      have hHeld := hHeld2
      clear hHeld2
      (try simp only [Act.put, List.setIfInBounds_toArray, List.set_cons_zero, List.set_cons_succ])
      refine wpAnyL_ready (rs := [3]) (by kernel_rfl) (by simp) ?_
      refine AllReadyL.cons (o := ⟨some 19, _, _, _, _, _⟩) rfl (fun K hK => ?_) AllReadyL.nil
      go_simp
      go_at_call 24
      refine (RuSt.ins HU12.out hrl (by omega)).mono ?_
      rintro e w11 ⟨xs, ia, ic, rfl, hR11, hI11⟩
      have HI11 := Lib.hid hI11
      have HR11 := Lib.hid hR11
      clear hI11 hR11
      have HNE := Lib.hid (show w10.heap.size ≠ br from by have := HU10.out.rd.lt.1; omega)
      have HLO' := Lib.hid (own_turned HLO.out HR11.out.turned (fun q hq => by simp only [Value.ownBlock, Option.some.injEq] at hq; have := HNE.out; omega))
      have hHeld2 : (fun W : World => W.cell? ⟨ub, 0, none⟩ = some (Value.slice ua us.length uc)) _ := cell_of_row _ _ 0 _ _ _ HI11.out.ru.u
      refine hK.out _ _ (fun _ => hHeld2) ?_
      clear hK K hHeld
      have hHeld := hHeld2
      clear hHeld2
      (try simp only [Act.put, List.setIfInBounds_toArray, List.set_cons_zero, List.set_cons_succ])
      have HI12 := HI11
      clear HLO
      have HLO := HLO'
      have HNM := Lib.hid (numR HI12.out.ru.rd hrl (by omega) (g := w10.heap.size) (n := 10) (c := 10) (xs := [300, 300, 50, 8, 3, 1, 0, 2000, -1, 60001]) ⟨rfl, rowAt_of_own HLO.out⟩ HNE.out (by omega))
      refine wpAnyL_ready (rs := [6]) (by kernel_rfl) (by simp) ?_
      refine AllReadyL.cons (o := ⟨some 22, _, _, _, _, _⟩) rfl (fun K hK => ?_) AllReadyL.nil
      go_simp
      go_at_call 25
      refine HNM.out.mono ?_
      rintro e w13 ⟨v13, rfl, hv13, hR13, hg13⟩
      have HI13 := Lib.hid (HI12.out.over hR13)
      clear hv13 hR13 hg13
      have hHeld2 : (fun W : World => W.cell? ⟨ub, 0, none⟩ = some (Value.slice ua us.length uc)) _ := cell_of_row _ _ 0 _ _ _ HI13.out.ru.u
      refine hK.out _ _ (fun _ => hHeld2) ?_
      clear hK K hHeld
      have hHeld := hHeld2
      clear hHeld2
      (try simp only [Act.put, List.setIfInBounds_toArray, List.set_cons_zero, List.set_cons_succ])
      refine wpAnyL_ready (rs := [7]) (by kernel_rfl) (by simp) ?_
      refine AllReadyL.cons (o := ⟨none, _, _, _, _, _⟩) rfl (fun K hK => ?_) AllReadyL.nil
      have y0 := frozen_of_row _ _ 0 _ _ HI13.out.ru.r
      have r0 := cell_of_row _ _ 0 _ _ _ HI13.out.ru.r
      simp only [List.getElem?_toArray, List.getElem?_cons_zero, List.getElem?_cons_succ] at r0
      go_simp
      clear y0 r0
      have hrow13 := (turned_store w13 rb 0 (.slice ua us.length uc)).block ub (Array.getElem?_eq_some_iff.1 HI13.out.ru.u).1 (by have := HI13.out.ru.lo; omega)
      have hHeld2 : (fun W : World => W.cell? ⟨ub, 0, none⟩ = some (Value.slice ua us.length uc)) _ := cell_of_row _ _ 0 _ _ _ (hrow13.trans HI13.out.ru.u)
      refine hK.out _ _ (fun _ => hHeld2) ?_
      clear hK K hHeld
      have hHeld := hHeld2
      clear hHeld2
      (try simp only [Act.put, List.setIfInBounds_toArray, List.set_cons_zero, List.set_cons_succ])
      refine wpAnyL_ready (rs := [8]) (by kernel_rfl) (by simp) ?_
      refine AllReadyL.cons (o := ⟨some 3, _, _, _, _, _⟩) rfl (fun K hK => ?_) AllReadyL.nil
      go_simp
      have hHeld2 : (fun W : World => W.cell? ⟨ub, 0, none⟩ = some (Value.slice ua us.length uc)) _ := hHeld
      refine hK.out _ _ (fun _ => hHeld2) ?_
      clear hK K hHeld
      have hHeld := hHeld2
      clear hHeld2
      (try simp only [Act.put, List.setIfInBounds_toArray, List.set_cons_zero, List.set_cons_succ])
      refine wpAnyL_ready (rs := [9]) (by kernel_rfl) (by simp) ?_
      refine AllReadyL.cons (o := ⟨some 4, _, _, _, _, _⟩) rfl (fun K hK => ?_) AllReadyL.nil
      go_simp
      refine hK.out _ _ (lastL (by kernel_rfl)) ?_
      clear hK K hHeld
      (try simp only [Act.put, List.setIfInBounds_toArray, List.set_cons_zero, List.set_cons_succ])
      refine wpAnyL_done (by kernel_rfl) ?_ _
      clear hrow13
      go_wp2
      refine bodyPost_ret (results_cellR2 rfl _ _ rb 25 #[.slice ua us.length uc] (0, 0) _ rfl ?_ Try.underlying25 rfl (by kernel_rfl)) rfl ?_
      · exact (heap_setCell_same w13 rb 0 _ _ _ HI13.out.ru.r).trans rfl
      · exact ⟨us, ua, uc, xs, ia, ic, v13, rfl, HI13.out.fin⟩
end

end Go.Proofs.Ytajnldkempeheaa
