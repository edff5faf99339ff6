
/-
  Data of the group Unit that a call has made: where their memory lies.
-/
import Derived.Test.YtonlidgmfmgcmaaGreatUnitEq
import Derived.Test.YtonlidgmfmgcmaaGreatCore
namespace Go.Proofs.YtonlidgmfmgcmaaGreat
open Go.RowKit

def PhiO : OwnRel PhiD := fun lo hi w cs x => ∃ args_a args_c, cs = [.int .i64 x.to, .slice args_a x.args.length args_c] ∧ IntsOwn 3 lo hi w args_a x.args.length args_c x.args
theorem phiO_keeps : Keeps PhiO where
  le := by
    rintro lo hi w c x ⟨args_a, args_c, rfl, args_o⟩
    have hl0 := args_o.1; omega
  wide := by
    rintro lo hi lo' hi' w c x ⟨args_a, args_c, rfl, args_o⟩ h1 h2
    exact ⟨args_a, args_c, rfl, args_o.wide h1 h2⟩
  turned := by
    rintro lo hi w w' c x S ⟨args_a, args_c, rfl, args_o⟩ ht hS
    have hl0 := args_o.1;
    exact ⟨args_a, args_c, rfl, args_o.turned ht (fun k h5 h6 => hS k (by omega) (by omega))⟩
theorem phiO_rd : ∀ lo hi w cs x, PhiO lo hi w cs x → PhiR w cs x := by
  rintro lo hi w c x ⟨args_a, args_c, rfl, args_o⟩
  exact ⟨args_a, args_c, rfl, ⟨⟨args_o.max, args_o.nil⟩, args_o.rd⟩⟩
def InsO : OwnRel InsD := fun lo hi w cs x => ∃ args_a args_c, cs = [.int .i64 x.op, .int .i64 x.to, .slice args_a x.args.length args_c, .int .i64 x.num] ∧ IntsOwn 3 lo hi w args_a x.args.length args_c x.args
theorem insO_keeps : Keeps InsO where
  le := by
    rintro lo hi w c x ⟨args_a, args_c, rfl, args_o⟩
    have hl0 := args_o.1; omega
  wide := by
    rintro lo hi lo' hi' w c x ⟨args_a, args_c, rfl, args_o⟩ h1 h2
    exact ⟨args_a, args_c, rfl, args_o.wide h1 h2⟩
  turned := by
    rintro lo hi w w' c x S ⟨args_a, args_c, rfl, args_o⟩ ht hS
    have hl0 := args_o.1;
    exact ⟨args_a, args_c, rfl, args_o.turned ht (fun k h5 h6 => hS k (by omega) (by omega))⟩
theorem insO_rd : ∀ lo hi w cs x, InsO lo hi w cs x → InsR w cs x := by
  rintro lo hi w c x ⟨args_a, args_c, rfl, args_o⟩
  exact ⟨args_a, args_c, rfl, ⟨⟨args_o.max, args_o.nil⟩, args_o.rd⟩⟩
def BlockO : OwnRel BlockD := fun lo hi w cs x => ∃ phis_a phis_c ins_a ins_c nx_a nx_c m1 m2, cs = [.slice phis_a x.phis.length phis_c, .slice ins_a x.ins.length ins_c, .int .i64 x.jump, .int .i64 x.jon, .slice nx_a x.nx.length nx_c] ∧ SliceOwn 2 83 PhiO lo m1 w phis_a x.phis.length phis_c x.phis ∧ SliceOwn 4 45 InsO m1 m2 w ins_a x.ins.length ins_c x.ins ∧ IntsOwn 3 m2 hi w nx_a x.nx.length nx_c x.nx
theorem blockO_keeps : Keeps BlockO where
  le := by
    rintro lo hi w c x ⟨phis_a, phis_c, ins_a, ins_c, nx_a, nx_c, m1, m2, rfl, phis_o, ins_o, nx_o⟩
    have hl0 := phis_o.le phiO_keeps; have hl1 := ins_o.le insO_keeps; have hl2 := nx_o.1; omega
  wide := by
    rintro lo hi lo' hi' w c x ⟨phis_a, phis_c, ins_a, ins_c, nx_a, nx_c, m1, m2, rfl, phis_o, ins_o, nx_o⟩ h1 h2
    exact ⟨phis_a, phis_c, ins_a, ins_c, nx_a, nx_c, m1, m2, rfl, phis_o.wide phiO_keeps h1 (Nat.le_refl _), ins_o.wide insO_keeps (Nat.le_refl _) (Nat.le_refl _), nx_o.wide (Nat.le_refl _) h2⟩
  turned := by
    rintro lo hi w w' c x S ⟨phis_a, phis_c, ins_a, ins_c, nx_a, nx_c, m1, m2, rfl, phis_o, ins_o, nx_o⟩ ht hS
    have hl0 := phis_o.le phiO_keeps; have hl1 := ins_o.le insO_keeps; have hl2 := nx_o.1;
    exact ⟨phis_a, phis_c, ins_a, ins_c, nx_a, nx_c, m1, m2, rfl, phis_o.turned phiO_keeps ht (fun k h5 h6 => hS k (by omega) (by omega)), ins_o.turned insO_keeps ht (fun k h5 h6 => hS k (by omega) (by omega)), nx_o.turned ht (fun k h5 h6 => hS k (by omega) (by omega))⟩
theorem blockO_rd : ∀ lo hi w cs x, BlockO lo hi w cs x → BlockR w cs x := by
  rintro lo hi w c x ⟨phis_a, phis_c, ins_a, ins_c, nx_a, nx_c, m1, m2, rfl, phis_o, ins_o, nx_o⟩
  exact ⟨phis_a, phis_c, ins_a, ins_c, nx_a, nx_c, rfl, ⟨⟨phis_o.max, phis_o.nil⟩, phis_o.rd phiO_rd⟩, ⟨⟨ins_o.max, ins_o.nil⟩, ins_o.rd insO_rd⟩, ⟨⟨nx_o.max, nx_o.nil⟩, nx_o.rd⟩⟩
def CodeO : OwnRel CodeD := fun lo hi w cs x => ∃ blocks_a blocks_c, cs = [.int .i64 x.params, .int .i64 x.regs, .slice blocks_a x.blocks.length blocks_c] ∧ SliceOwn 5 49 BlockO lo hi w blocks_a x.blocks.length blocks_c x.blocks
theorem codeO_keeps : Keeps CodeO where
  le := by
    rintro lo hi w c x ⟨blocks_a, blocks_c, rfl, blocks_o⟩
    have hl0 := blocks_o.le blockO_keeps; omega
  wide := by
    rintro lo hi lo' hi' w c x ⟨blocks_a, blocks_c, rfl, blocks_o⟩ h1 h2
    exact ⟨blocks_a, blocks_c, rfl, blocks_o.wide blockO_keeps h1 h2⟩
  turned := by
    rintro lo hi w w' c x S ⟨blocks_a, blocks_c, rfl, blocks_o⟩ ht hS
    have hl0 := blocks_o.le blockO_keeps;
    exact ⟨blocks_a, blocks_c, rfl, blocks_o.turned blockO_keeps ht (fun k h5 h6 => hS k (by omega) (by omega))⟩
theorem codeO_rd : ∀ lo hi w cs x, CodeO lo hi w cs x → CodeR w cs x := by
  rintro lo hi w c x ⟨blocks_a, blocks_c, rfl, blocks_o⟩
  exact ⟨blocks_a, blocks_c, rfl, ⟨⟨blocks_o.max, blocks_o.nil⟩, blocks_o.rd blockO_rd⟩⟩
def UnitO : OwnRel UnitD := fun lo hi w cs x => ∃ codes_a codes_c, cs = [.slice codes_a x.codes.length codes_c] ∧ SliceOwn 3 52 CodeO lo hi w codes_a x.codes.length codes_c x.codes
theorem unitO_keeps : Keeps UnitO where
  le := by
    rintro lo hi w c x ⟨codes_a, codes_c, rfl, codes_o⟩
    have hl0 := codes_o.le codeO_keeps; omega
  wide := by
    rintro lo hi lo' hi' w c x ⟨codes_a, codes_c, rfl, codes_o⟩ h1 h2
    exact ⟨codes_a, codes_c, rfl, codes_o.wide codeO_keeps h1 h2⟩
  turned := by
    rintro lo hi w w' c x S ⟨codes_a, codes_c, rfl, codes_o⟩ ht hS
    have hl0 := codes_o.le codeO_keeps;
    exact ⟨codes_a, codes_c, rfl, codes_o.turned codeO_keeps ht (fun k h5 h6 => hS k (by omega) (by omega))⟩
theorem unitO_rd : ∀ lo hi w cs x, UnitO lo hi w cs x → UnitR w cs x := by
  rintro lo hi w c x ⟨codes_a, codes_c, rfl, codes_o⟩
  exact ⟨codes_a, codes_c, rfl, ⟨⟨codes_o.max, codes_o.nil⟩, codes_o.rd codeO_rd⟩⟩

end Go.Proofs.YtonlidgmfmgcmaaGreat
