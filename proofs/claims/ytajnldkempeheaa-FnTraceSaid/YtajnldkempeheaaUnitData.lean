/-
  What the laws' rows hand over of an argument that is a slice of ints, in the words of the walks.
-/
import Derived.Test.YtajnldkempeheaaBase
import Derived.ProofKit
import Derived.OpenShut
import Derived.ShutString
import Derived.ChangeOld
import Derived.Below
import Derived.Test.YtajnldkempeheaaCore

namespace Go.Proofs.Ytajnldkempeheaa
open Go.RowKit

theorem own_knob : ownKnob Try.prog.godebug = none := by kernel_rfl
theorem laid_out : laidOutB Try.prog = true := by kernel_rfl

/-- A slice of integers that came in: nil, or a row of 'cap' cells that holds the numbers 'zs'. -/
def IsRow (k : IntKind) (w : World) (a : Option Addr) (len cap : Nat) (zs : List Int) : Prop :=
  (a = none ∧ len = 0 ∧ cap = 0 ∧ zs = []) ∨
  ∃ x, a = some x ∧ len ≤ cap ∧ cap ≤ maxLen ∧ zs.length = cap ∧ (∀ i, i < zs.length → w.cell? (x.add i) = some (.int k (zs.getD i 0))) ∧ ∀ n ∈ zs, (Lit.int k n).wf = true

theorem rowAt_of_row {k : IntKind} {w : World} {a : Option Addr} {len cap : Nat} {zs : List Int} (h : IsRow k w a len cap zs) : RowAt w a ((zs.take len).map (Value.int k)) ∧ (zs.take len).length = len ∧ ∀ n ∈ zs.take len, (Lit.int k n).wf = true := by
  rcases h with ⟨rfl, rfl, rfl, rfl⟩ | ⟨x, rfl, hl, hm, hz, hc, hw⟩
  · exact ⟨.inl (by simp), by simp, by simp⟩
  · refine ⟨?_, by simp; omega, fun n hn => hw n (List.mem_of_mem_take hn)⟩
    by_cases h0 : len = 0
    · subst h0; exact .inl (by simp)
    · obtain ⟨b, off, spot⟩ := x
      have h1 := hc 0 (by omega)
      have hspot : spot = none := by simpa [Addr.add] using World.cell?_spot h1
      subst hspot
      refine .inr ⟨b, off, rfl, fun i v hv => ?_⟩
      rw [List.getElem?_map, List.getElem?_take] at hv
      split at hv
      · rename_i hi
        have h2 := hc i (by omega)
        have hadd : (⟨b, off, none⟩ : Addr).add i = ⟨b, off + i, none⟩ := by unfold Addr.add; split <;> simp_all
        rw [hadd] at h2
        rw [h2, ← hv, List.getD_eq_getElem?_getD, List.getElem?_eq_getElem (by omega)]
        simp
      · simp at hv

end Go.Proofs.Ytajnldkempeheaa

/-
  The data of the group Unit: what it means that cells read as such a datum; the laws' sizes of them.
-/
namespace Go.Proofs.Ytajnldkempeheaa
open Go.RowKit

structure PhiD where
  to : Int
  args : List Int
def PhiR (w : World) (cs : List Value) (x : PhiD) : Prop := ∃ args_a args_c, cs = [.int .i64 x.to, .slice args_a x.args.length args_c] ∧ ((x.args.length ≤ maxLen ∧ (args_a = none → args_c = 0)) ∧ IntsRd w args_a x.args.length x.args)
def szPhiD (x : PhiD) : Nat := x.args.length
theorem phiR_lasts : Lasts PhiR := by
  rintro w w' cs x hb ⟨args_a, args_c, rfl, ⟨args_m, args_r⟩⟩
  exact ⟨args_a, args_c, rfl, ⟨args_m, args_r.later hb⟩⟩
theorem phi_place {w : World} {a : Option Addr} {len : Nat} {xs : List PhiD} (h : SliceRd 2 PhiR w a len xs) {i : Nat} (hi : i < len) :
    ∃ b off to args args_a args_c, a = some ⟨b, off, none⟩ ∧ xs[i]? = some (⟨to, args⟩ : PhiD) ∧ w.cell? ⟨b, off + i * 2, none⟩ = some (.int .i64 to) ∧ w.cell? ⟨b, off + i * 2 + 1, none⟩ = some (.slice args_a args.length args_c) ∧ PhiR w [.int .i64 to, .slice args_a args.length args_c] ⟨to, args⟩ := by
  obtain ⟨b, off, cs, x, rfl, hx, _, hc, hr⟩ := h.place (by decide) hi
  have hr0 := hr
  obtain ⟨args_a, args_c, rfl, _⟩ := hr
  obtain ⟨to, args⟩ := x
  exact ⟨b, off, to, args, args_a, args_c, rfl, hx, hc 0 _ rfl, hc 1 _ rfl, hr0⟩
structure InsD where
  op : Int
  to : Int
  args : List Int
  num : Int
def InsR (w : World) (cs : List Value) (x : InsD) : Prop := ∃ args_a args_c, cs = [.int .i64 x.op, .int .i64 x.to, .slice args_a x.args.length args_c, .int .i64 x.num] ∧ ((x.args.length ≤ maxLen ∧ (args_a = none → args_c = 0)) ∧ IntsRd w args_a x.args.length x.args)
def szInsD (x : InsD) : Nat := x.args.length
theorem insR_lasts : Lasts InsR := by
  rintro w w' cs x hb ⟨args_a, args_c, rfl, ⟨args_m, args_r⟩⟩
  exact ⟨args_a, args_c, rfl, ⟨args_m, args_r.later hb⟩⟩
theorem ins_place {w : World} {a : Option Addr} {len : Nat} {xs : List InsD} (h : SliceRd 4 InsR w a len xs) {i : Nat} (hi : i < len) :
    ∃ b off op to args num args_a args_c, a = some ⟨b, off, none⟩ ∧ xs[i]? = some (⟨op, to, args, num⟩ : InsD) ∧ w.cell? ⟨b, off + i * 4, none⟩ = some (.int .i64 op) ∧ w.cell? ⟨b, off + i * 4 + 1, none⟩ = some (.int .i64 to) ∧ w.cell? ⟨b, off + i * 4 + 2, none⟩ = some (.slice args_a args.length args_c) ∧ w.cell? ⟨b, off + i * 4 + 3, none⟩ = some (.int .i64 num) ∧ InsR w [.int .i64 op, .int .i64 to, .slice args_a args.length args_c, .int .i64 num] ⟨op, to, args, num⟩ := by
  obtain ⟨b, off, cs, x, rfl, hx, _, hc, hr⟩ := h.place (by decide) hi
  have hr0 := hr
  obtain ⟨args_a, args_c, rfl, _⟩ := hr
  obtain ⟨op, to, args, num⟩ := x
  exact ⟨b, off, op, to, args, num, args_a, args_c, rfl, hx, hc 0 _ rfl, hc 1 _ rfl, hc 2 _ rfl, hc 3 _ rfl, hr0⟩
structure BlockD where
  phis : List PhiD
  ins : List InsD
  jump : Int
  jon : Int
  nx : List Int
def BlockR (w : World) (cs : List Value) (x : BlockD) : Prop := ∃ phis_a phis_c ins_a ins_c nx_a nx_c, cs = [.slice phis_a x.phis.length phis_c, .slice ins_a x.ins.length ins_c, .int .i64 x.jump, .int .i64 x.jon, .slice nx_a x.nx.length nx_c] ∧ ((x.phis.length ≤ maxLen ∧ (phis_a = none → phis_c = 0)) ∧ SliceRd 2 PhiR w phis_a x.phis.length x.phis) ∧ ((x.ins.length ≤ maxLen ∧ (ins_a = none → ins_c = 0)) ∧ SliceRd 4 InsR w ins_a x.ins.length x.ins) ∧ ((x.nx.length ≤ maxLen ∧ (nx_a = none → nx_c = 0)) ∧ IntsRd w nx_a x.nx.length x.nx)
def szBlockD (x : BlockD) : Nat := szS szPhiD x.phis + szS szInsD x.ins + x.nx.length
theorem blockR_lasts : Lasts BlockR := by
  rintro w w' cs x hb ⟨phis_a, phis_c, ins_a, ins_c, nx_a, nx_c, rfl, ⟨phis_m, phis_r⟩, ⟨ins_m, ins_r⟩, ⟨nx_m, nx_r⟩⟩
  exact ⟨phis_a, phis_c, ins_a, ins_c, nx_a, nx_c, rfl, ⟨phis_m, phis_r.later phiR_lasts hb⟩, ⟨ins_m, ins_r.later insR_lasts hb⟩, ⟨nx_m, nx_r.later hb⟩⟩
theorem block_place {w : World} {a : Option Addr} {len : Nat} {xs : List BlockD} (h : SliceRd 5 BlockR w a len xs) {i : Nat} (hi : i < len) :
    ∃ b off phis ins jump jon nx phis_a phis_c ins_a ins_c nx_a nx_c, a = some ⟨b, off, none⟩ ∧ xs[i]? = some (⟨phis, ins, jump, jon, nx⟩ : BlockD) ∧ w.cell? ⟨b, off + i * 5, none⟩ = some (.slice phis_a phis.length phis_c) ∧ w.cell? ⟨b, off + i * 5 + 1, none⟩ = some (.slice ins_a ins.length ins_c) ∧ w.cell? ⟨b, off + i * 5 + 2, none⟩ = some (.int .i64 jump) ∧ w.cell? ⟨b, off + i * 5 + 3, none⟩ = some (.int .i64 jon) ∧ w.cell? ⟨b, off + i * 5 + 4, none⟩ = some (.slice nx_a nx.length nx_c) ∧ BlockR w [.slice phis_a phis.length phis_c, .slice ins_a ins.length ins_c, .int .i64 jump, .int .i64 jon, .slice nx_a nx.length nx_c] ⟨phis, ins, jump, jon, nx⟩ := by
  obtain ⟨b, off, cs, x, rfl, hx, _, hc, hr⟩ := h.place (by decide) hi
  have hr0 := hr
  obtain ⟨phis_a, phis_c, ins_a, ins_c, nx_a, nx_c, rfl, _⟩ := hr
  obtain ⟨phis, ins, jump, jon, nx⟩ := x
  exact ⟨b, off, phis, ins, jump, jon, nx, phis_a, phis_c, ins_a, ins_c, nx_a, nx_c, rfl, hx, hc 0 _ rfl, hc 1 _ rfl, hc 2 _ rfl, hc 3 _ rfl, hc 4 _ rfl, hr0⟩
structure CodeD where
  params : Int
  regs : Int
  blocks : List BlockD
def CodeR (w : World) (cs : List Value) (x : CodeD) : Prop := ∃ blocks_a blocks_c, cs = [.int .i64 x.params, .int .i64 x.regs, .slice blocks_a x.blocks.length blocks_c] ∧ ((x.blocks.length ≤ maxLen ∧ (blocks_a = none → blocks_c = 0)) ∧ SliceRd 5 BlockR w blocks_a x.blocks.length x.blocks)
def szCodeD (x : CodeD) : Nat := szS szBlockD x.blocks
theorem codeR_lasts : Lasts CodeR := by
  rintro w w' cs x hb ⟨blocks_a, blocks_c, rfl, ⟨blocks_m, blocks_r⟩⟩
  exact ⟨blocks_a, blocks_c, rfl, ⟨blocks_m, blocks_r.later blockR_lasts hb⟩⟩
theorem code_place {w : World} {a : Option Addr} {len : Nat} {xs : List CodeD} (h : SliceRd 3 CodeR w a len xs) {i : Nat} (hi : i < len) :
    ∃ b off params regs blocks blocks_a blocks_c, a = some ⟨b, off, none⟩ ∧ xs[i]? = some (⟨params, regs, blocks⟩ : CodeD) ∧ w.cell? ⟨b, off + i * 3, none⟩ = some (.int .i64 params) ∧ w.cell? ⟨b, off + i * 3 + 1, none⟩ = some (.int .i64 regs) ∧ w.cell? ⟨b, off + i * 3 + 2, none⟩ = some (.slice blocks_a blocks.length blocks_c) ∧ CodeR w [.int .i64 params, .int .i64 regs, .slice blocks_a blocks.length blocks_c] ⟨params, regs, blocks⟩ := by
  obtain ⟨b, off, cs, x, rfl, hx, _, hc, hr⟩ := h.place (by decide) hi
  have hr0 := hr
  obtain ⟨blocks_a, blocks_c, rfl, _⟩ := hr
  obtain ⟨params, regs, blocks⟩ := x
  exact ⟨b, off, params, regs, blocks, blocks_a, blocks_c, rfl, hx, hc 0 _ rfl, hc 1 _ rfl, hc 2 _ rfl, hr0⟩
end Go.Proofs.Ytajnldkempeheaa
