
/-
  Data of the group Mach that a call has made: where their memory lies.
-/
import Derived.Test.YtdkafajmhgfkoaaDoorMachEq
import Derived.Test.YtdkafajmhgfkoaaDoorCore
namespace Go.Proofs.YtdkafajmhgfkoaaDoor
open Go.RowKit

def MinsO : OwnRel MinsD := fun lo hi w cs x => lo ≤ hi ∧ MinsR w cs x
theorem minsO_keeps : Keeps MinsO :=
  ⟨fun h => h.1, fun h h1 h2 => ⟨by have := h.1; omega, h.2⟩, fun h _ _ => h⟩
theorem minsO_rd : ∀ lo hi w cs x, MinsO lo hi w cs x → MinsR w cs x := fun _ _ _ _ _ h => h.2
def MfnO : OwnRel MfnD := fun lo hi w cs x => ∃ ins_a ins_c, cs = [.int .i64 x.params, .int .i64 x.slots, .slice ins_a x.ins.length ins_c] ∧ SliceOwn 5 41 MinsO lo hi w ins_a x.ins.length ins_c x.ins
theorem mfnO_keeps : Keeps MfnO where
  le := by
    rintro lo hi w c x ⟨ins_a, ins_c, rfl, ins_o⟩
    have hl0 := ins_o.le minsO_keeps; omega
  wide := by
    rintro lo hi lo' hi' w c x ⟨ins_a, ins_c, rfl, ins_o⟩ h1 h2
    exact ⟨ins_a, ins_c, rfl, ins_o.wide minsO_keeps h1 h2⟩
  turned := by
    rintro lo hi w w' c x S ⟨ins_a, ins_c, rfl, ins_o⟩ ht hS
    have hl0 := ins_o.le minsO_keeps;
    exact ⟨ins_a, ins_c, rfl, ins_o.turned minsO_keeps ht (fun k h5 h6 => hS k (by omega) (by omega))⟩
theorem mfnO_rd : ∀ lo hi w cs x, MfnO lo hi w cs x → MfnR w cs x := by
  rintro lo hi w c x ⟨ins_a, ins_c, rfl, ins_o⟩
  exact ⟨ins_a, ins_c, rfl, ⟨⟨ins_o.max, ins_o.nil⟩, ins_o.rd minsO_rd⟩⟩
def MachO : OwnRel MachD := fun lo hi w cs x => ∃ fns_a fns_c, cs = [.slice fns_a x.fns.length fns_c] ∧ SliceOwn 3 32 MfnO lo hi w fns_a x.fns.length fns_c x.fns
theorem machO_keeps : Keeps MachO where
  le := by
    rintro lo hi w c x ⟨fns_a, fns_c, rfl, fns_o⟩
    have hl0 := fns_o.le mfnO_keeps; omega
  wide := by
    rintro lo hi lo' hi' w c x ⟨fns_a, fns_c, rfl, fns_o⟩ h1 h2
    exact ⟨fns_a, fns_c, rfl, fns_o.wide mfnO_keeps h1 h2⟩
  turned := by
    rintro lo hi w w' c x S ⟨fns_a, fns_c, rfl, fns_o⟩ ht hS
    have hl0 := fns_o.le mfnO_keeps;
    exact ⟨fns_a, fns_c, rfl, fns_o.turned mfnO_keeps ht (fun k h5 h6 => hS k (by omega) (by omega))⟩
theorem machO_rd : ∀ lo hi w cs x, MachO lo hi w cs x → MachR w cs x := by
  rintro lo hi w c x ⟨fns_a, fns_c, rfl, fns_o⟩
  exact ⟨fns_a, fns_c, rfl, ⟨⟨fns_o.max, fns_o.nil⟩, fns_o.rd mfnO_rd⟩⟩

end Go.Proofs.YtdkafajmhgfkoaaDoor
