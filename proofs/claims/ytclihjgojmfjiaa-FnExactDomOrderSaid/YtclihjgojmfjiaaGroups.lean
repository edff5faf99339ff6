/-
  A map of lists of ints that a call fills by appends.
-/
import Derived.Test.YtclihjgojmfjiaaOwn
import Derived.Test.YtclihjgojmfjiaaApp
import Derived.Maps.GroupsBeside
namespace Go.Proofs.Ytclihjgojmfjiaa
open Go.RowKit Go.Maps Go.WideElems Go.ChangeMaps Go.MapKept Go.ChangeShapes

theorem und_int : Try.prog.underlying 3 = some (.int .i64) := by kernel_rfl
theorem und_groups : Try.prog.underlying 107 = some (.map 3 36) := by kernel_rfl
theorem zero_ints (w : World) : (zeroValue 36).run Try.prog w = .ok (.slice none 0 0) w := by kernel_rfl
theorem int_key : Keyed Try.prog 3 := int_keyed und_int

/-- What a list reads as in the map: the empty one as none. -/
def zsDatum (ys : List Int) : DataW Unit := if ys = [] then .nil else .slice (lits .i64 ys) []
theorem lits_inj {xs ys : List Int} (h : (lits .i64 xs : List (DataW Unit)) = lits .i64 ys) : xs = ys :=
  (List.map_inj_right (fun a b hab => by cases hab; rfl)).1 h
theorem zs_of_datum {w : World} {base : Nat} {v : Value} {zs ys : List Int} (h : w.ownsInts base 3 .i64 v zs) (he : zsDatum ys = rowDatum .i64 v zs) : zs = ys := by
  unfold zsDatum at he
  rcases h.datum (H := Unit) with ⟨h1, h2⟩ | h1
  · rw [h1] at he
    by_cases hy : ys = []
    · rw [h2, hy]
    · rw [if_neg hy] at he; cases he
  · rw [h1] at he
    by_cases hy : ys = []
    · rw [if_pos hy] at he; cases he
    · rw [if_neg hy] at he
      simp only [DataW.slice.injEq] at he
      exact (lits_inj he.1).symm

/-- Block M is a map of lists of ints: at key m the list G m. -/
def GroupsAt (w : World) (M n : Nat) (G : Int → List Int) : Prop :=
  ∃ D : DataW Unit, w.ownsGroups Try.prog 3 (M + 1) 3 .i64 M n D ∧ IsMap D ∧ ∀ m : Int, (Lit.int .i64 m).wf = true → D.atKey (.int .i64 m) .nil = zsDatum (G m)

theorem GroupsAt.made (w : World) : GroupsAt (w.alloc (.map #[] 0)) w.heap.size 0 (fun _ => []) :=
  ⟨.map [], World.ownsGroups_made _ _ _ _ _, isMap_empty, fun _ _ => rfl⟩
theorem GroupsAt.later {w w' : World} {M n : Nat} {G : Int → List Int} (h : GroupsAt w M n G) (hb : Below w.heap.size w w') : GroupsAt w' M n G := by
  obtain ⟨D, ⟨es, clock, hM, F, hs, rfl, hbb, hlen, hap⟩, hD⟩ := h
  have hst : ∀ x ∈ es.toList, ∀ z, rowElem (H := Unit) w (M + 1) 3 .i64 x.val = some z → rowElem w' (M + 1) 3 .i64 x.val = some z := fun x hx z hz => by
    obtain ⟨zs, ho, rfl⟩ := rowElem_inv hz
    exact rowElem_mk ⟨ownsRow_below ho.1 hb, ho.2⟩
  obtain ⟨F1, hmap, _⟩ := F.stay hst
  refine ⟨_, ⟨es, clock, (hb.block _ (Array.getElem?_eq_some_iff.1 hM).1).trans hM, F1, hs, by rw [hmap], hbb, fun x hx zs ho => ?_, hap⟩, hD⟩
  obtain ⟨y, hy⟩ := F.reads x hx
  obtain ⟨z, hz, _⟩ := rd_val hy
  obtain ⟨zs0, ho0, _⟩ := rowElem_inv hz
  have ho0' : w'.ownsInts (M + 1) 3 .i64 x.val zs0 := ⟨ownsRow_below ho0.1 hb, ho0.2⟩
  rw [ho.unique ho0']
  exact hlen x hx zs0 ho0
theorem GroupsAt.mono {w : World} {M n n' : Nat} {G G' : Int → List Int} (h : GroupsAt w M n G) (hn : n ≤ n') (hG : ∀ m, G m = G' m) : GroupsAt w M n' G' := by
  obtain ⟨D, ⟨es, clock, hM, F, hs, rfl, hbb, hlen, hap⟩, hD, hat⟩ := h
  exact ⟨_, ⟨es, clock, hM, F, by omega, rfl, hbb, fun x hx zs ho => by have := hlen x hx zs ho; omega, hap⟩, hD, fun m hm => by rw [hat m hm, hG m]⟩
theorem own_slice {w : World} {base : Nat} {e : TypeId} {size : Nat} {v : Value} {n : Nat} {xs : List Value} (h : w.ownsRow base e size v n xs) : ∃ a c, v = .slice a n c := by
  rcases h.2 with ⟨rfl, h0⟩ | ⟨g, cap, cur, rfl, _⟩
  · exact ⟨none, 0, by rw [h0]⟩
  · exact ⟨_, _, rfl⟩
/-- The way back into the map. -/
def BackAt (w : World) (M n : Nat) (G : Int → List Int) (m : Int) (v : Value) : Prop :=
  ∀ (w1 : World) (v' : Value) (zs' : List Int), w.grownBy w1 v.ownBlock → w1.ownsInts (M + 1) 3 .i64 v' zs' → zs'.length ≤ n + 1 → zs' ≠ [] → (v'.ownBlock = v.ownBlock ∨ ∃ g, v'.ownBlock = some g ∧ w.heap.size ≤ g) →
    ∃ w2, (Instr.mapUpdate 107 (.map (some M)) (.int .i64 m) v').run Try.prog w1 = .ok () w2 ∧ GroupsAt w2 M (n + 1) (fun j => if j = m then zs' else G j) ∧ w1.grownBy w2 (some M)
theorem GroupsAt.look {w : World} {M n : Nat} {G : Int → List Int} (h : GroupsAt w M n G) (hn : n ≤ 1048576) {m : Int} (hm : (Lit.int .i64 m).wf = true) :
    ∃ a c, (Instr.lookup 107 (.map (some M)) (.int .i64 m) false).run Try.prog w = .ok (.slice a (G m).length c) w ∧ w.ownsInts (M + 1) 3 .i64 (.slice a (G m).length c) (G m) ∧ (G m).length ≤ n ∧ BackAt w M n G m (.slice a (G m).length c) ∧
      (∀ No : Nat → Prop, w.Shuns M No → ∀ g, (Value.slice a (G m).length c).ownBlock = some g → ¬ No g) := by
  obtain ⟨D, hown, hD, hat⟩ := h
  obtain ⟨es, clock, hM, F, hs, hDe, hbb, hlen, hap⟩ := hown
  have hown : w.ownsGroups Try.prog 3 (M + 1) 3 .i64 M n D := ⟨es, clock, hM, F, hs, hDe, hbb, hlen, hap⟩
  have hkey := keyOf_int_mk (P := Try.prog) und_int hm
  obtain ⟨v, zs, hrun, hv, ho, hl, hback⟩ := hown.at int_key und_groups (zero_ints w) (by unfold maxLen; omega) hkey
  have hzs : zs = G m := zs_of_datum ho (by rw [← hat m hm, hv])
  subst hzs
  obtain ⟨a, c, rfl⟩ := own_slice ho.1
  refine ⟨a, c, hrun, ho, hl, ?_, ?_⟩
  · intro w1 v' zs' h1 h2 h3 h4 h5
    obtain ⟨w2, r1, r2, r3⟩ := hback w1 v' zs' h1 h2 h3 h5
    refine ⟨w2, r1, ⟨_, r2, hD.put _ _, fun j hj => ?_⟩, r3⟩
    show DataW.atKey _ _ _ = zsDatum (if j = m then zs' else G j)
    by_cases hjm : j = m
    · subst hjm
      rw [atKey_put_same hD (show WideAt.IsKeyLit (.int .i64 j) from trivial), h2.datum_pos h4, if_pos rfl, zsDatum, if_neg h4]
    · rw [atKey_put_other (fun e => hjm (by cases e; rfl)), if_neg hjm, hat j hj]
  · intro No hN g hg hNg
    rcases Maps.fit_look false int_key und_groups (zero_ints w) hM F hkey with ⟨hrun2, _, _⟩ | ⟨e0, y, hm0, _, hrun2, _, _, _⟩
    · rw [hrun] at hrun2
      simp only [Bool.false_eq_true, if_false, Result.ok.injEq, and_true] at hrun2
      rw [hrun2] at hg
      simp [Value.ownBlock] at hg
    · rw [hrun] at hrun2
      simp only [Bool.false_eq_true, if_false, Result.ok.injEq, and_true] at hrun2
      exact hN es clock hM e0 hm0 g (by rw [← hrun2]; exact hg) hNg
/-- The lists lie below the world's end. -/
theorem GroupsAt.shuns {w0 w : World} {M n : Nat} {G : Int → List Int} (h : GroupsAt w0 M n G) (hb : Below w0.heap.size w0 w) : w.Shuns M (fun g => w0.heap.size ≤ g) := by
  obtain ⟨D, hown, _⟩ := h
  have h0 : w0.Shuns M (fun _ => False) := fun es clock hb x hx g hg hN => hN
  have h1 := h0.reno (No' := fun g => w0.heap.size ≤ g) hown (fun g hg => .inr hg)
  obtain ⟨es, clock, hM, _⟩ := hown
  exact fun es' clock' hb' => h1 es' clock' ((hb.block _ (Array.getElem?_eq_some_iff.1 hM).1).symm.trans hb')
/-- The look-up in a later world. -/
theorem GroupsAt.lookLater {w0 w : World} {M n : Nat} {G : Int → List Int} (h : GroupsAt w0 M n G) (hb : Below w0.heap.size w0 w) (hn : n ≤ 1048576) {m : Int} (hm : (Lit.int .i64 m).wf = true) :
    ∃ a c, (Instr.lookup 107 (.map (some M)) (.int .i64 m) false).run Try.prog w = .ok (.slice a (G m).length c) w ∧ w0.ownsRow (M + 1) 3 1 (.slice a (G m).length c) (G m).length ((G m).map (Value.int .i64)) := by
  obtain ⟨a, c, h1, h2, _, _, h5⟩ := (h.later hb).look hn hm
  refine ⟨a, c, h1, h2.1.1, ?_⟩
  have hlt : ∀ g, (Value.slice a (G m).length c).ownBlock = some g → g < w0.heap.size := fun g hg => by have := h5 _ (h.shuns hb) g hg; omega
  rcases h2.1.2 with h0 | ⟨g, cap, cur, e, hbg, hgg, rest⟩
  · exact .inl h0
  · exact .inr ⟨g, cap, cur, e, hbg, (hb.block g (hlt g (by rw [e]; rfl))).symm.trans hgg, rest⟩

theorem only_one {α β : Type} {f : α → β} {a b : α} : ∀ l : List α, l.Pairwise (fun x y => f x ≠ f y) → a ∈ l → b ∈ l → f a = f b → a = b
  | [], _, h, _, _ => by simp at h
  | c :: t, hp, ha, hb, he => by
    rw [List.pairwise_cons] at hp
    rcases List.mem_cons.1 ha with ha1 | ha1
    · rcases List.mem_cons.1 hb with hb1 | hb1
      · rw [ha1, hb1]
      · subst ha1
        exact (hp.1 b hb1 he).elim
    · rcases List.mem_cons.1 hb with hb1 | hb1
      · subst hb1
        exact (hp.1 a ha1 he.symm).elim
      · exact only_one t hp.2 ha1 hb1 he
/-- The look-up reads the map's block alone. -/
theorem GroupsAt.lookSame {w W : World} {M n : Nat} {G : Int → List Int} (h : GroupsAt w M n G) {m : Int} (hm : (Lit.int .i64 m).wf = true) (hW : W.heap[M]? = w.heap[M]?) {v : Value}
    (hr : (Instr.lookup 107 (.map (some M)) (.int .i64 m) false).run Try.prog w = .ok v w) : (Instr.lookup 107 (.map (some M)) (.int .i64 m) false).run Try.prog W = .ok v W := by
  obtain ⟨D, ⟨es, clock, hM, F, _⟩, _⟩ := h
  have hkey := keyOf_int_mk (P := Try.prog) und_int hm
  rcases Maps.fit_look false int_key und_groups (zero_ints w) hM F hkey with ⟨h1, h2, _⟩ | ⟨e0, y, hm0, hk0, h1, _⟩
  · rcases Maps.fit_look false int_key und_groups (zero_ints W) (hW.trans hM) F hkey with ⟨h3, _⟩ | ⟨e1, y1, hm1, hk1, _⟩
    · rw [h1] at hr
      simp only [Bool.false_eq_true, if_false, Result.ok.injEq, and_true] at hr h3
      rw [← hr]; exact h3
    · exact (h2 e1 hm1 hk1).elim
  · rcases Maps.fit_look false int_key und_groups (zero_ints W) (hW.trans hM) F hkey with ⟨_, h4, _⟩ | ⟨e1, y1, hm1, hk1, h3, _⟩
    · exact (h4 e0 hm0 hk0).elim
    · have he : e0 = e1 := only_one _ ((stamped_iff es clock).1 F.stamped).2.2 hm0 hm1 (hk0.trans hk1.symm)
      subst he
      rw [h1] at hr
      simp only [Bool.false_eq_true, if_false, Result.ok.injEq, and_true] at hr h3
      rw [← hr]; exact h3

end Go.Proofs.Ytclihjgojmfjiaa
