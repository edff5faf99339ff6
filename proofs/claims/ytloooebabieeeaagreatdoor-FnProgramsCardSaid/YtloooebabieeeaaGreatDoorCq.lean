/-
  Steps of a region that draws its order, with what the kernel finds left out. (no filter)
-/
import Derived.Test.YtloooebabieeeaaGreatDoorHl
import Derived.Test.YtloooebabieeeaaGreatDoorCp
namespace Go.Proofs.YtloooebabieeeaaGreatDoor
open Go.RowKit
set_option linter.unusedVariables false
section
variable {P : Program} {ops : Array Oper} {Q : Exit → Act → World → Prop} {md : Region.Mode} {S : World → Prop} {fuel : Nat} {listed : Array Bool} {a : Act} {w : World}
theorem tkL (k i : Nat) (d : Option Nat) {x2 x3 x4 x5 x6} {v : Value} (hS : S w) (h : Z1i P md ops Q S fuel (listed.setIfInBounds i true) (a.put d v) w)
    (hi : ops[i]? = some ⟨d, x2, x3, x4, x5, x6⟩ := by rfl) (hs : Region.noSelect ops = true := by kernel_rfl) (hf : Region.free md ops listed i = true := by kernel_rfl) (hr : (Region.ready md ops listed).contains i = true := by kernel_rfl)
    (hw : ((ops[k]?.map fun o => o.after.any (fun e => Region.binds md e && e.on == i)) == some true && !(listed.getD k true) && k != i) = true := by kernel_rfl)
    (hQ : ∀ c a w, Q (.panic c) (a.put d v) w → Q (.panic c) a w := by exact fun _ _ _ h => h)
    (hy : YieldsIf P ops S ⟨d, x2, x3, x4, x5, x6⟩ v a := by exact Or.inl ⟨by rfl, by (intro w hSw; (try dsimp only at hSw); go_simp; all_goals (first | with_reducible rfl | (rw [if_neg (by omega)]) | (rw [if_pos (by omega)]) | skip))⟩) :
    Z1i P md ops Q S (fuel + 1) listed a w := Z50 k hi hs hf hr hw hQ hy hS h
theorem skL (k i : Nat) (d : Option Nat) {x2 x3 x4 x5 x6} (hS : S w) (h : Z1i P md ops Q S fuel (listed.setIfInBounds i true) (a.put d undef) w)
    (hi : ops[i]? = some ⟨d, x2, x3, x4, x5, x6⟩ := by rfl) (hs : Region.noSelect ops = true := by kernel_rfl) (hf : Region.free md ops listed i = true := by kernel_rfl) (hr : (Region.ready md ops listed).contains i = true := by kernel_rfl)
    (hw : ((ops[k]?.map fun o => o.after.any (fun e => Region.binds md e && e.on == i)) == some true && !(listed.getD k true) && k != i) = true := by kernel_rfl)
    (hQ : ∀ c a w, Q (.panic c) (a.put d undef) w → Q (.panic c) a w := by exact fun _ _ _ h => h)
    (hy : YieldsIf P ops S ⟨d, x2, x3, x4, x5, x6⟩ undef a := by exact Or.inr ⟨by rfl, rfl⟩) :
    Z1i P md ops Q S (fuel + 1) listed a w := Z50 k hi hs hf hr hw hQ hy hS h
theorem Z06 (i : Nat) (d : Option Nat) {x2 x3 x4 x5 x6}
    (h : ∀ K' : Act → World → Prop, Shut (∀ a w, (Z8l ops.size (listed.setIfInBounds i true) = true → S w) → Z1i P md ops Q S fuel (listed.setIfInBounds i true) a w → K' a w) → if Region.wanted (⟨d, x2, x3, x4, x5, x6⟩ : Oper) (yielded ops a.tmps) = true then Oper.wp P ⟨d, x2, x3, x4, x5, x6⟩ a w K' Q else K' (a.put d undef) w)
    (ho : ops[i]? = some ⟨d, x2, x3, x4, x5, x6⟩ := by rfl) (hr : Region.ready md ops listed = [i] := by kernel_rfl) : Z1i P md ops Q S (fuel + 1) listed a w :=
  Z0y hr (by simp) (ZD.cons ho h ZD.nil)
theorem kpL {K : Act → World → Prop} {b : Prop} (hK : Shut (∀ a w, (b → S w) → Z1i P md ops Q S fuel listed a w → K a w)) (hs : S w) (h : S w → Z1i P md ops Q S fuel listed a w) : K a w := hK.out _ _ (fun _ => hs) (h hs)
theorem tkH (i : Nat) (d : Option Nat) {x2 x3 x4 x5 x6} {v : Value} (hS : S w) (h : wpAnyH P md ops Q S fuel (listed.setIfInBounds i true) (a.put d v) w)
    (hi : ops[i]? = some ⟨d, x2, x3, x4, x5, x6⟩ := by rfl) (hs : Region.noSelect ops = true := by kernel_rfl) (hf : Region.free md ops listed i = true := by kernel_rfl) (hr : (Region.ready md ops listed).contains i = true := by kernel_rfl)
    (hQ : ∀ c a w, Q (.panic c) (a.put d v) w → Q (.panic c) a w := by exact fun _ _ _ h => h)
    (hy : YieldsIf P ops S ⟨d, x2, x3, x4, x5, x6⟩ v a := by exact Or.inl ⟨by rfl, by (intro w hSw; (try dsimp only at hSw); go_simp; all_goals (try with_reducible rfl))⟩) :
    wpAnyH P md ops Q S (fuel + 1) listed a w := wpAnyH_take hi hs hf hr hQ hy hS h
theorem Z9J (i : Nat) (d : Option Nat) {x2 x3 x4 x5 x6}
    (h : ∀ K' : Act → World → Prop, Shut (∀ a w, S w → (S w → wpAnyH P md ops Q S fuel (listed.setIfInBounds i true) a w) → K' a w) → if Region.wanted (⟨d, x2, x3, x4, x5, x6⟩ : Oper) (yielded ops a.tmps) = true then Oper.wp P ⟨d, x2, x3, x4, x5, x6⟩ a w K' Q else K' (a.put d undef) w)
    (ho : ops[i]? = some ⟨d, x2, x3, x4, x5, x6⟩ := by rfl) (hr : Region.ready md ops listed = [i] := by kernel_rfl) : wpAnyH P md ops Q S (fuel + 1) listed a w :=
  wpAnyH_ready hr (by simp) (AllReadyH.cons ho h AllReadyH.nil)
end
end Go.Proofs.YtloooebabieeeaaGreatDoor
