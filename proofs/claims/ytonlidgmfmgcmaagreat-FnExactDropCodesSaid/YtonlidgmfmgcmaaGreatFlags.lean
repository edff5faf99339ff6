
/-
  A map of truth values that a call fills; its keys in ascending order.
-/
import Derived.Test.YtonlidgmfmgcmaaGreatTally
import Derived.Test.YtonlidgmfmgcmaaGreatSort
import Derived.Maps.RangeWalk
import Derived.Sort.OwnSorted
namespace Go.Proofs.YtonlidgmfmgcmaaGreat
open Go.RowKit Go.Maps Go.WideElems Go.ChangeMaps Go.MapKept Go.ChangeShapes

theorem und_flag_bool : Tryz.prog.underlying 4 = some .bool := by kernel_rfl
theorem und_flags : Tryz.prog.underlying 91 = some (.map 3 4) := by kernel_rfl
theorem zero_flag (w : World) : (zeroValue 4).run Tryz.prog w = .ok (.bool false) w := by kernel_rfl
theorem plainElem_bool_inv {P : Program} {e : TypeId} (he : P.underlying e = some .bool) {v : Value} {z : DataW Unit × List MemPlace} (h : plainElem P e v = some z) : ∃ x, v = .bool x ∧ z = (.lit (.bool x), []) := by
  unfold plainElem at h
  rw [he] at h
  cases v <;> simp at h
  exact ⟨_, rfl, h.symm⟩
/-- What a map holds: true at the keys of which G holds, nothing else. -/
structure FlagD (D : DataW Unit) (G : Int → Bool) : Prop where
  map : IsMap D
  look : ∀ m : Int, (Lit.int .i64 m).wf = true → D.atKey (.int .i64 m) (.lit (.bool false)) = .lit (.bool (G m))
  has : ∀ m : Int, (Lit.int .i64 m).wf = true → has D (.int .i64 m) = G m
/-- Block M is such a map of at most n entries. -/
def FlagsAt (w : World) (M n : Nat) (G : Int → Bool) : Prop :=
  ∃ D : DataW Unit, w.ownsMap Tryz.prog 3 (plainElem Tryz.prog 4) M n D ∧ FlagD D G
theorem FlagsAt.made (w : World) : FlagsAt (w.alloc (.map #[] 0)) w.heap.size 0 (fun _ => false) :=
  ⟨.map [], World.ownsMap_made _ _ _ _, isMap_empty, fun _ _ => rfl, fun _ _ => rfl⟩
theorem FlagsAt.lt {w : World} {M n : Nat} {G : Int → Bool} (h : FlagsAt w M n G) : M < w.heap.size := by obtain ⟨D, h, _⟩ := h; exact h.lt
theorem FlagsAt.stay {w w' : World} {M n : Nat} {G : Int → Bool} (h : FlagsAt w M n G) (hb : w'.heap[M]? = w.heap[M]?) : FlagsAt w' M n G := by
  obtain ⟨D, ⟨es, clock, hM, F, hs, hD⟩, h⟩ := h
  exact ⟨D, ⟨es, clock, hb.trans hM, F, hs, hD⟩, h⟩
theorem FlagsAt.later {w w' : World} {M n : Nat} {G : Int → Bool} (h : FlagsAt w M n G) (hb : Below w.heap.size w w') : FlagsAt w' M n G := h.stay (hb.block _ h.lt)
theorem FlagsAt.same {w : World} {M n : Nat} {G G' : Int → Bool} (h : FlagsAt w M n G) (hG : ∀ m, G m = G' m) : FlagsAt w M n G' := by
  obtain rfl : G = G' := funext hG
  exact h
theorem FlagsAt.look {w : World} {M n : Nat} {G : Int → Bool} (h : FlagsAt w M n G) {m : Int} (hm : (Lit.int .i64 m).wf = true) :
    (Instr.lookup 91 (.map (some M)) (.int .i64 m) false).run Tryz.prog w = .ok (.bool (G m)) w := by
  obtain ⟨D, h1, h2⟩ := h
  obtain ⟨v, ps, hrun, hv⟩ := h1.lookup tal_key und_flags (zero_flag w) (plainElem_bool und_flag_bool false) (keyOf_int_mk und_tal_int hm)
  obtain ⟨x, rfl, hx⟩ := plainElem_bool_inv und_flag_bool hv
  rw [h2.look m hm] at hx
  simp only [Prod.mk.injEq, DataW.lit.injEq, Lit.bool.injEq] at hx
  rw [hrun, ← hx.1]
theorem FlagsAt.put {w : World} {M n : Nat} {G : Int → Bool} (h : FlagsAt w M n G) (hn : n < maxLen) {m : Int} (hm : (Lit.int .i64 m).wf = true) :
    ∃ w2, (Instr.mapUpdate 91 (.map (some M)) (.int .i64 m) (.bool true)).run Tryz.prog w = .ok () w2 ∧ FlagsAt w2 M (n + 1) (fun j => decide (j = m) || G j) ∧ w.grownBy w2 (some M) := by
  obtain ⟨D, h1, h2⟩ := h
  obtain ⟨w2, hrun, h4, hg⟩ := h1.update tal_key und_flags hn (keyOf_int_mk und_tal_int hm) (plainElem_bool und_flag_bool true)
  refine ⟨w2, hrun, ⟨_, h4, h2.map.put _ _, fun j hj => ?_, fun j hj => ?_⟩, hg⟩
  · by_cases hjm : j = m
    · subst hjm
      rw [atKey_put_same h2.map (show WideAt.IsKeyLit (.int .i64 j) from trivial)]; simp
    · rw [atKey_put_other (fun e => hjm (by cases e; rfl)), h2.look j hj]; simp [hjm]
  · by_cases hjm : j = m
    · subst hjm
      rw [has_put_same h2.map (show WideAt.IsKeyLit (.int .i64 j) from trivial)]; simp
    · rw [has_put_other (fun e => hjm (by cases e; rfl)), h2.has j hj]; simp [hjm]

/-! ### the keys -/
structure CollI (D : DataW Unit) (left : Lit → Bool) (ss : List Int) : Prop where
  nodup : ss.Nodup
  mem : ∀ x : Int, x ∈ ss ↔ ((Lit.int .i64 x).wf = true ∧ has D (.int .i64 x) = true ∧ left (.int .i64 x) = false)
theorem CollI.start (D : DataW Unit) : CollI D (has D) [] := ⟨List.nodup_nil, fun x => by cases has D (.int .i64 x) <;> simp⟩
theorem CollI.step {D : DataW Unit} {left : Lit → Bool} {ss : List Int} (h : CollI D left ss) {x : Int} (hw : (Lit.int .i64 x).wf = true) {y : DataW Unit} (hlk : left (.int .i64 x) = true) (hat : ∀ zd, D.atKey (.int .i64 x) zd = y) :
    CollI D (fun z => left z && !z.sameKey (.int .i64 x)) (ss ++ [x]) := by
  have hhas : has D (.int .i64 x) = true := has_true_of_atKey hat
  have hnew : x ∉ ss := fun hx => by have := ((h.mem x).1 hx).2.2; rw [hlk] at this; cases this
  refine ⟨List.nodup_append.2 ⟨h.nodup, by simp, fun a ha b hb => by simp at hb; subst hb; exact fun e => hnew (e ▸ ha)⟩, fun y => ?_⟩
  by_cases hy : y = x
  · subst hy; simp [hhas, hw, Lit.sameKey]
  · simp [h.mem y, hy, Lit.sameKey]
/-- Sorted, they are the keys in ascending order. -/
theorem CollI.sorted {D : DataW Unit} {G : Int → Bool} {left : Lit → Bool} {ss R : List Int} (h : CollI D left ss) (hD : FlagD D G) (hl : ∀ kl, left kl = false) (hR : Asc R) (hm : ∀ z, z ∈ R ↔ G z = true) (hw : ∀ z, G z = true → (Lit.int .i64 z).wf = true) : sortI ss = R := by
  have hp := List.mergeSort_perm ss (fun x y => decide (x ≤ y))
  have hs : (ss.mergeSort (fun x y => decide (x ≤ y))).Pairwise (fun x y => decide (x ≤ y) = true) := List.pairwise_mergeSort (fun a b c h1 h2 => by simp at *; omega) (fun a b => by simp; omega) ss
  have hn := (hp.nodup_iff).2 h.nodup
  refine asc_ext (xs := sortI ss) ?_ hR (fun z => ?_)
  · refine (hs.and hn).imp (fun {a b} hab => ?_)
    have h1 := of_decide_eq_true hab.1
    have h2 : a ≠ b := hab.2
    omega
  · rw [show z ∈ sortI ss ↔ z ∈ ss from hp.mem_iff, h.mem z, hm z, hl]
    constructor
    · rintro ⟨h1, h2, _⟩; rw [hD.has z h1] at h2; exact h2
    · intro h2; exact ⟨hw z h2, by rw [hD.has z (hw z h2)]; exact h2, rfl⟩

set_option maxRecDepth 100000 in
set_option maxHeartbeats 1000000 in
theorem sortedKeys_any (M n : Nat) (G : Int → Bool) (R : List Int) (w : World) (h : FlagsAt w M n G) (hn : n ≤ 1048577) (hR : Asc R) (hm : ∀ z, z ∈ R ↔ G z = true) (hw : ∀ z, G z = true → (Lit.int .i64 z).wf = true) :
    Calls Tryz.prog 68 #[.map (some M)] w fun e w' => RetInts w R R.length e w' := by
  obtain ⟨D0, hown, hD⟩ := h
  have hbl := hown.lt
  have hsz : Maps.size D0 ≤ n := hown.size_le
  have HD := Lib.hid (And.intro hD (And.intro hR (And.intro hm hw)))
  clear hD hR hm hw
  go_enter Tryz.func68, Tryz.ntmps68
  go_wp2_with (first
    | (at_range; refine wpList_range_own _ rfl _ 91 rfl 3 4 tal_key und_flags _ M n _ rfl hown ?_; intro w0 hrg0 hg0 hs0)
    | go_in)
  go_frame
  go_loopw [3] (fun v wr => ∃ (left : Lit → Bool) (cnt : Nat) (ss : List Int), wr.ranges Tryz.prog 3 (plainElem Tryz.prog 4) M w.heap.size n D0 left cnt ∧ ss.length + cnt ≤ Maps.size D0 ∧
      (∃ a c, v = .slice a ss.length c ∧ wr.ownsRow w.heap.size 3 1 (.slice a ss.length c) ss.length (ss.map (Value.int .i64))) ∧ CollI D0 left ss ∧ Below w.heap.size w wr)
    (fun _ wr => wr.rangeLeft M w.heap.size)
  case atStart =>
    exact ⟨_, _, [], hrg0, by simp, ⟨none, 0, rfl, World.ownsRow_nil _ _ _ _⟩, CollI.start D0, (Below.refl _ _).grown hg0 (Nat.le_refl _) (fun j hj => by cases hj)⟩
  case round =>
    obtain ⟨left, cnt, ss, hrg, hcs, ⟨a, c, rfl, hrow⟩, hC, hnx⟩ := hrel
    clear hs0 hg0 hrg0
    go_wp2_with (first
      | (at_next; refine wpList_next_ranges _ rfl _ rfl 3 tal_key (plainElem Tryz.prog 4) (Value.int .i64) (fun v : Value => v) (fun key kl hk => by obtain ⟨x, rfl, _⟩ := Maps.keyOf_int_inv und_tal_int hk; exact ⟨x, rfl⟩) (fun v y hv => ⟨v, rfl⟩) M w.heap.size n _ _ _ rfl hrg ?_ ?_)
      | go_in)
    · intro hc0 hl0
      have HS := Lib.hid (hC.sorted HD.out.1 hl0 HD.out.2.1 HD.out.2.2.1 HD.out.2.2.2)
      go_wp2_with fail
      refine (sort_any w.heap.size a c ss wr hrow (by omega)).mono ?_
      rintro e w2 ⟨rfl, hown2, hg2⟩
      have HN := Lib.hid (hnx.grown hg2 hnx.size (fun j hj => (hrow.lt j hj).1))
      have HLn := Lib.hid (show ss.length = R.length by have := sortI_len ss; rw [HS.out] at this; exact this.symm)
      rw [HS.out] at hown2
      have HO := Lib.hid hown2
      clear hown2 hg2 hrow
      go_wp2
      go_ret
      have h := HO.out
      rw [HLn.out] at h ⊢
      exact ⟨_, _, rfl, h, HN.out⟩
    · intro x y kl yd yp w2 cnt2 hkey hlk hv hat hrg2 hlt hg2 hs2 hen
      obtain ⟨x', ex, rfl, hwx⟩ := Maps.keyOf_int_inv und_tal_int hkey
      cases ex
      have hrow2 := hrow.kept hg2 (Or.inr (row_ne_iter hrow hrg).symm)
      have hnx2 := hnx.grown hg2 hnx.size (fun j hj => by cases hj; exact Nat.le_refl _)
      have hsz2 := hnx2.size
      have HC := Lib.hid (And.intro (hC.step hwx hlk hat) (And.intro hrg2 (And.intro hnx2 (And.intro hrow2 (And.intro hrg.left_eq (show cnt2 < cnt from hlt))))))
      clear hs2 hkey hv hat hlk hC hnx hrow hrg hg2 hlt
      go_wp2_with (at_builtin; refine app_ints rfl (.tmp 11) (.tmp 13) rfl w.heap.size _ ss.length _ rfl (hrow2.alloc _) _ 1 _ [x] rfl rfl (rowAt_one _ _ _) (by rintro ⟨⟩) (by omega) (by simp only [World.size_alloc]; omega) ?_; intro a5 c5 w5 hown5 hg5 hlies5)
      have hrg3 := (hrg2.alloc _).kept hg5 (row_ne_low hrow2 hbl) (row_ne_iter hrow2 hrg2)
      have HB := Lib.hid ((hnx2.alloc hsz2 _).grown hg5 (by simp only [World.size_alloc]; omega) (fun j hj => (hrow2.lt j hj).1))
      have HO := Lib.hid (And.intro hown5 hrg3)
      clear hown5 hg5 hlies5 hrg3 hrow2 hrg2 hnx2
      go_roundw
      case rel => exact ⟨_, cnt2, ss ++ [x], HO.out.2, by have := HC.out.2.2.2.2.2; simp; omega, ⟨a5, c5, by simp, by simpa using HO.out.1⟩, HC.out.1, HB.out⟩
      case measure => rw [HO.out.2.left_eq, HC.out.2.2.2.2.1]; exact HC.out.2.2.2.2.2

end Go.Proofs.YtonlidgmfmgcmaaGreat
