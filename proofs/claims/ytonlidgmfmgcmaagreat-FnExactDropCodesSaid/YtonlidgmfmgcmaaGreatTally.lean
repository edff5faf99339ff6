
/-
  A map of numbers that a call fills.
-/
import Derived.Test.YtonlidgmfmgcmaaGreatCore
import Derived.Test.YtonlidgmfmgcmaaGreatBase
import Derived.Maps.OwnOps
import Derived.Maps.Views
namespace Go.Proofs.YtonlidgmfmgcmaaGreat
open Go.RowKit Go.Maps Go.WideElems Go.ChangeMaps Go.MapKept Go.ChangeShapes

theorem und_tal_int : Tryz.prog.underlying 3 = some (.int .i64) := by kernel_rfl
theorem zero_tal (w : World) : (zeroValue 3).run Tryz.prog w = .ok (.int .i64 0) w := by kernel_rfl
theorem tal_key : Keyed Tryz.prog 3 := int_keyed und_tal_int

/-- Block M is a map of at most n numbers: at key m the number G m. -/
def TallyAt (w : World) (M n : Nat) (G : Int → Int) : Prop :=
  ∃ D : DataW Unit, w.ownsMap Tryz.prog 3 (plainElem Tryz.prog 3) M n D ∧ IsMap D ∧ ∀ m : Int, (Lit.int .i64 m).wf = true → D.atKey (.int .i64 m) (.lit (.int .i64 0)) = .lit (.int .i64 (G m))
theorem TallyAt.made (w : World) : TallyAt (w.alloc (.map #[] 0)) w.heap.size 0 (fun _ => 0) :=
  ⟨.map [], World.ownsMap_made _ _ _ _, isMap_empty, fun _ _ => rfl⟩
theorem TallyAt.lt {w : World} {M n : Nat} {G : Int → Int} (h : TallyAt w M n G) : M < w.heap.size := by obtain ⟨D, h, _⟩ := h; exact h.lt
theorem TallyAt.stay {w w' : World} {M n : Nat} {G : Int → Int} (h : TallyAt w M n G) (hb : w'.heap[M]? = w.heap[M]?) : TallyAt w' M n G := by
  obtain ⟨D, ⟨es, clock, hM, F, hs, hD⟩, h⟩ := h
  exact ⟨D, ⟨es, clock, hb.trans hM, F, hs, hD⟩, h⟩
theorem TallyAt.later {w w' : World} {M n : Nat} {G : Int → Int} (h : TallyAt w M n G) (hb : Below w.heap.size w w') : TallyAt w' M n G := h.stay (hb.block _ h.lt)
theorem TallyAt.same {w : World} {M n : Nat} {G G' : Int → Int} (h : TallyAt w M n G) (hG : ∀ m, G m = G' m) : TallyAt w M n G' := by
  obtain ⟨D, h1, h2, h3⟩ := h
  exact ⟨D, h1, h2, fun m hm => by rw [h3 m hm, hG m]⟩
end Go.Proofs.YtonlidgmfmgcmaaGreat
