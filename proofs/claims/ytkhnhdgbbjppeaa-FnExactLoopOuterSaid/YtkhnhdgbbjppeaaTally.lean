
/-
  A map of numbers that a call fills.
-/
import Derived.Test.YtkhnhdgbbjppeaaCore
import Derived.Test.YtkhnhdgbbjppeaaBase
import Derived.Maps.OwnOps
import Derived.Maps.Views
namespace Go.Proofs.Ytkhnhdgbbjppeaa
open Go.RowKit Go.Maps Go.WideElems Go.ChangeMaps Go.MapKept Go.ChangeShapes

theorem und_tal_int : Try.prog.underlying 3 = some (.int .i64) := by kernel_rfl
theorem und_tally : Try.prog.underlying 96 = some (.map 3 3) := by kernel_rfl
theorem zero_tal (w : World) : (zeroValue 3).run Try.prog w = .ok (.int .i64 0) w := by kernel_rfl
theorem tal_key : Keyed Try.prog 3 := int_keyed und_tal_int

/-- Block M is a map of at most n numbers: at key m the number G m. -/
def TallyAt (w : World) (M n : Nat) (G : Int → Int) : Prop :=
  ∃ D : DataW Unit, w.ownsMap Try.prog 3 (plainElem Try.prog 3) M n D ∧ IsMap D ∧ ∀ m : Int, (Lit.int .i64 m).wf = true → D.atKey (.int .i64 m) (.lit (.int .i64 0)) = .lit (.int .i64 (G m))
theorem TallyAt.made (w : World) : TallyAt (w.alloc (.map #[] 0)) w.heap.size 0 (fun _ => 0) :=
  ⟨.map [], World.ownsMap_made _ _ _ _, isMap_empty, fun _ _ => rfl⟩
theorem TallyAt.lt {w : World} {M n : Nat} {G : Int → Int} (h : TallyAt w M n G) : M < w.heap.size := by obtain ⟨D, h, _⟩ := h; exact h.lt
theorem TallyAt.stay {w w' : World} {M n : Nat} {G : Int → Int} (h : TallyAt w M n G) (hb : w'.heap[M]? = w.heap[M]?) : TallyAt w' M n G := by
  obtain ⟨D, ⟨es, clock, hM, F, hs, hD⟩, h⟩ := h
  exact ⟨D, ⟨es, clock, hb.trans hM, F, hs, hD⟩, h⟩
theorem TallyAt.later {w w' : World} {M n : Nat} {G : Int → Int} (h : TallyAt w M n G) (hb : Below w.heap.size w w') : TallyAt w' M n G := h.stay (hb.block _ h.lt)
theorem TallyAt.same {w : World} {M n : Nat} {G G' : Int → Int} (h : TallyAt w M n G) (hG : ∀ m, G m = G' m) : TallyAt w M n G' := by
  obtain ⟨D, h1, h2, h3⟩ := h
  exact ⟨D, h1, h2, fun m hm => by rw [h3 m hm, hG m]⟩
theorem TallyAt.look {w : World} {M n : Nat} {G : Int → Int} (h : TallyAt w M n G) {m : Int} (hm : (Lit.int .i64 m).wf = true) :
    (Instr.lookup 96 (.map (some M)) (.int .i64 m) false).run Try.prog w = .ok (.int .i64 (G m)) w := by
  obtain ⟨D, h1, h2, h3⟩ := h
  obtain ⟨c, hrun, hat, _⟩ := h1.lookup_int tal_key und_tally und_tal_int (zero_tal w) (keyOf_int_mk und_tal_int hm)
  rw [h3 m hm] at hat
  simp only [DataW.lit.injEq, Lit.int.injEq, true_and] at hat
  rw [hrun, hat]
theorem TallyAt.put {w : World} {M n : Nat} {G : Int → Int} (h : TallyAt w M n G) (hn : n < maxLen) {m x : Int} (hm : (Lit.int .i64 m).wf = true) (hx : (Lit.int .i64 x).wf = true) :
    ∃ w2, (Instr.mapUpdate 96 (.map (some M)) (.int .i64 m) (.int .i64 x)).run Try.prog w = .ok () w2 ∧ TallyAt w2 M (n + 1) (fun j => if j = m then x else G j) ∧ w.grownBy w2 (some M) := by
  obtain ⟨D, h1, h2, h3⟩ := h
  obtain ⟨w2, hrun, h4, hg⟩ := h1.update tal_key und_tally hn (keyOf_int_mk und_tal_int hm) (plainElem_int und_tal_int hx)
  refine ⟨w2, hrun, ⟨_, h4, h2.put _ _, fun j hj => ?_⟩, hg⟩
  show _ = DataW.lit (Lit.int .i64 (if j = m then x else G j))
  by_cases hjm : j = m
  · subst hjm
    rw [atKey_put_same h2 (show WideAt.IsKeyLit (.int .i64 j) from trivial), if_pos rfl]
  · rw [atKey_put_other (fun e => hjm (by cases e; rfl)), if_neg hjm, h3 j hj]

end Go.Proofs.Ytkhnhdgbbjppeaa
