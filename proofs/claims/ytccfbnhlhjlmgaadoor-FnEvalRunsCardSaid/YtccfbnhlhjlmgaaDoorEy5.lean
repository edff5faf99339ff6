
/-
  A map of numbers under texts.
-/
import Derived.Test.YtccfbnhlhjlmgaaDoorNm
import Derived.Maps.OwnSet
import Derived.Maps.OwnOps
import Derived.Maps.Views
namespace Go.Proofs.YtccfbnhlhjlmgaaDoor
open Go.RowKit Go.Maps Go.WideElems Go.ChangeMaps Go.MapKept Go.ChangeShapes Go.WideMaps Go.WideShapes

theorem und_vmInt : Tryd.prog.underlying 3 = some (.int .i64) := by kernel_rfl
theorem und_vmStr : Tryd.prog.underlying 9 = some .string := by kernel_rfl
theorem und_vm : Tryd.prog.underlying 85 = some (.map 9 3) := by kernel_rfl
theorem zero_vm (w : World) : (zeroValue 3).run Tryd.prog w = .ok (.int .i64 0) w := by kernel_rfl
theorem vm_key : Keyed Tryd.prog 9 := string_keyed und_vmStr

abbrev keyV (s : ByteArray) : Lit := .string s.data.toList
theorem keyV_ne {s t : ByteArray} (h : s ≠ t) : keyV s ≠ keyV t := fun e => h (by
  have h2 : s.data.toList = t.data.toList := by simpa [keyV] using e
  have h3 : s.data = t.data := Array.toList_inj.1 h2
  cases s; cases t; cases h3; rfl)
/-- What a map holds. -/
structure VarD (D : DataW Unit) (G : ByteArray → Option Int) : Prop where
  map : IsMap D
  look : ∀ s : ByteArray, D.atKey (keyV s) (.lit (.int .i64 0)) = .lit (.int .i64 ((G s).getD 0))
  has : ∀ s : ByteArray, has D (keyV s) = (G s).isSome
/-- Block M is a map of at most n numbers. -/
def VarsAt (w : World) (M n : Nat) (G : ByteArray → Option Int) : Prop :=
  ∃ D : DataW Unit, w.ownsMap Tryd.prog 9 (plainElem Tryd.prog 3) M n D ∧ VarD D G
theorem VarsAt.of {w : World} {M : Nat} (h : w.heap[M]? = some (.map #[] 0)) : VarsAt w M 0 (fun _ => none) := by
  have h1 := World.ownsMap_made (H := Unit) w Tryd.prog 9 (plainElem Tryd.prog 3)
  obtain ⟨es, clock, hM, F, hs, hD⟩ := h1
  rw [heap_alloc_new] at hM
  cases hM
  exact ⟨.map [], ⟨#[], 0, h, F, hs, hD⟩, isMap_empty, fun _ => rfl, fun _ => rfl⟩
theorem VarsAt.lt {w : World} {M n : Nat} {G : ByteArray → Option Int} (h : VarsAt w M n G) : M < w.heap.size := by obtain ⟨D, h, _⟩ := h; exact h.lt
theorem VarsAt.stay {w w' : World} {M n : Nat} {G : ByteArray → Option Int} (h : VarsAt w M n G) (hb : w'.heap[M]? = w.heap[M]?) : VarsAt w' M n G := by
  obtain ⟨D, ⟨es, clock, hM, F, hs, hD⟩, h⟩ := h
  exact ⟨D, ⟨es, clock, hb.trans hM, F, hs, hD⟩, h⟩
theorem VarsAt.later {w w' : World} {M n : Nat} {G : ByteArray → Option Int} (h : VarsAt w M n G) (hb : Below w.heap.size w w') : VarsAt w' M n G := h.stay (hb.block _ h.lt)
theorem VarsAt.look {w : World} {M n : Nat} {G : ByteArray → Option Int} (h : VarsAt w M n G) {s : ByteArray} (hs : s.size ≤ maxLen) :
    (Instr.lookup 85 (.map (some M)) (.string s) false).run Tryd.prog w = .ok (.int .i64 ((G s).getD 0)) w := by
  obtain ⟨D, h1, h2⟩ := h
  obtain ⟨c, hrun, hat, _⟩ := h1.lookup_int vm_key und_vm und_vmInt (zero_vm w) (keyOf_string_mk und_vmStr hs)
  rw [h2.look s] at hat
  simp only [DataW.lit.injEq, Lit.int.injEq, true_and] at hat
  rw [hrun, hat]
theorem VarsAt.look_ok {w : World} {M n : Nat} {G : ByteArray → Option Int} (h : VarsAt w M n G) {s : ByteArray} (hs : s.size ≤ maxLen) :
    (Instr.lookup 85 (.map (some M)) (.string s) true).run Tryd.prog w = .ok (.tuple #[.int .i64 ((G s).getD 0), .bool (G s).isSome]) w := by
  obtain ⟨D, h1, h2⟩ := h
  obtain ⟨v, ps, hrun, hv⟩ := h1.look_ok vm_key und_vm (zero_vm w) (plainElem_int und_vmInt (by decide)) (keyOf_string_mk und_vmStr hs)
  obtain ⟨c, rfl, hc, _⟩ := plainElem_int_inv und_vmInt hv
  rw [h2.look s] at hc
  simp only [Prod.mk.injEq, DataW.lit.injEq, Lit.int.injEq, true_and] at hc
  rw [hrun, h2.has s, ← hc.1]
theorem VarsAt.put {w : World} {M n : Nat} {G : ByteArray → Option Int} (h : VarsAt w M n G) (hn : n < maxLen) {s : ByteArray} {x : Int} (hs : s.size ≤ maxLen) (hx : (Lit.int .i64 x).wf = true) :
    ∃ w2, (Instr.mapUpdate 85 (.map (some M)) (.string s) (.int .i64 x)).run Tryd.prog w = .ok () w2 ∧ VarsAt w2 M (n + 1) (fun t => if t = s then some x else G t) ∧ w.grownBy w2 (some M) := by
  obtain ⟨D, h1, h2⟩ := h
  obtain ⟨w2, hrun, h4, hg⟩ := h1.update vm_key und_vm hn (keyOf_string_mk und_vmStr hs) (plainElem_int und_vmInt hx)
  refine ⟨w2, hrun, ⟨_, h4, h2.map.put _ _, fun t => ?_, fun t => ?_⟩, hg⟩
  · by_cases hts : t = s
    · subst hts
      rw [atKey_put_same h2.map (show WideAt.IsKeyLit (keyV t) from trivial), if_pos rfl]
      rfl
    · rw [atKey_put_other (keyV_ne hts), h2.look t, if_neg hts]
  · by_cases hts : t = s
    · subst hts
      rw [has_put_same h2.map (show WideAt.IsKeyLit (keyV t) from trivial), if_pos rfl]
      rfl
    · rw [has_put_other (keyV_ne hts), h2.has t, if_neg hts]

/-- The value under a text's first place. -/
def valV : List ByteArray → List Int → ByteArray → Option Int
  | n :: ns, v :: vs, s => if s = n then some v else valV ns vs s
  | _, _, _ => none

end Go.Proofs.YtccfbnhlhjlmgaaDoor
