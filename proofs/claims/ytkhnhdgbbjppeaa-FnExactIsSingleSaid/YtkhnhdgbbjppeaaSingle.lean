
/-
  IsSingle: which uses are ruled; the reference's test of one use.
-/
import Derived.Test.YtkhnhdgbbjppeaaSetsSpec
import Derived.Test.YtkhnhdgbbjppeaaDomsImpl
import Derived.Test.YtkhnhdgbbjppeaaOrderIn3
import Derived.Test.YtkhnhdgbbjppeaaPreds
namespace Go.Proofs.Ytkhnhdgbbjppeaa
open Go.RowKit

/-- Is a use of r at place i of block b behind the place that sets it? -/
noncomputable def ruleAt (g : List (List Int)) (b i : Int) : List Pl → Bool
  | [] => false
  | a :: _ => if a.1 = b then decide (a.2 < i) else domB g a.1.toNat b.toNat
noncomputable def ruleB (P : List (List Pl)) (g : List (List Int)) (params r b i : Int) : Bool := decide (r < params) || ruleAt g b i (P.getD r.toNat [])
theorem ruleB_param {P : List (List Pl)} {g : List (List Int)} {params r b i : Int} (h : r < params) : ruleB P g params r b i = true := by simp [ruleB, h]
theorem ruleB_not {P : List (List Pl)} {g : List (List Int)} {params r b i : Int} {ps : List Pl} (h : ¬ r < params) (hp : P[r.toNat]? = some ps) : ruleB P g params r b i = ruleAt g b i ps := by
  rw [ruleB, decide_eq_false h, Bool.false_or, List.getD_eq_getElem?_getD, hp]; rfl
/-- All places lie in the code's blocks. -/
def PlIn (N : Nat) (P : List (List Pl)) : Prop := ∀ ps ∈ P, ∀ a ∈ ps, 0 ≤ a.1 ∧ a.1 < (N : Int)
theorem SetS.row {g n : Nat} {L : List (Int × Pl)} {w wr : World} (h : SetS g n L w wr) {m : Nat} (hm : m < n) :
    ∃ ra rc ps, (setsP n L)[m]? = some ps ∧ ps.length ≤ L.length ∧ wr.cell? ⟨g, m, none⟩ = some (.slice ra ps.length rc) ∧
      ∀ a rest, ps = a :: rest → ∃ b o k, ra = some ⟨b, o, none⟩ ∧ wr.cell? ⟨b, o, none⟩ = some (.slice (some ⟨k, 0, none⟩) 2 2) ∧ wr.cell? ⟨k, 0, none⟩ = some (.int .i64 a.1) ∧ wr.cell? ⟨k, 1, none⟩ = some (.int .i64 a.2) := by
  obtain ⟨rows, r, ps, h1, h2, h3, h4, h5, h6, h7, h8, h9⟩ := h.get hm
  refine ⟨r.a, r.cap, ps, h4, by have := h5.n; omega, by rw [← h5.n]; exact h7, fun a rest e => ?_⟩
  subst e
  have hl := h5.len
  obtain ⟨v, hv⟩ : ∃ v, r.vs[0]? = some v := ⟨_, List.getElem?_eq_getElem (by rw [hl]; simp)⟩
  obtain ⟨k, rfl, hk⟩ := h5.cell 0 v a hv rfl
  rcases rowAt_of_own h9 with h0 | ⟨b, o, hab, hc⟩
  · rw [h0] at hv; simp at hv
  · refine ⟨b, o, k, hab, ?_, cell_of_row _ _ 0 _ _ _ hk, cell_of_row _ _ 1 _ _ _ hk⟩
    have := hc 0 _ hv
    rwa [Nat.add_zero] at this

set_option maxRecDepth 100000 in
theorem l13Rules_any (p r0 : Int) (ba : Option Addr) (bc : Nat) (g : List (List Int)) (N gs n : Nat) (L : List (Int × Pl)) (w0 : World) (ma : Option Addr) (mc : Nat) (r b i : Int) (w : World) (hS : SetS gs n L w0 w) (hM : BMat w ma g.length (domMat g)) (hPl : PlIn g.length (setsP n L))
    (hr : 0 ≤ r ∧ r < (n : Int)) (hb : 0 ≤ b ∧ b < (g.length : Int)) (hL : L.length ≤ 1048576) :
    Calls Try.prog 156 #[.agg #[.int .i64 p, .int .i64 r0, .slice ba N bc], .slice (some ⟨gs, 0, none⟩) n n, .slice ma g.length mc, .int .i64 r, .int .i64 b, .int .i64 i] w fun e w' =>
      e = .returned (.bool (ruleB (setsP n L) g p r b i)) ∧ Below w.heap.size w w' := by
  obtain ⟨m, rfl⟩ : ∃ m : Nat, r = (m : Int) := ⟨r.toNat, by omega⟩
  obtain ⟨y, rfl⟩ : ∃ y : Nat, b = (y : Int) := ⟨b.toNat, by omega⟩
  have hm : m < n := by omega
  have hy : y < g.length := by omega
  have hb0 := below_box w (.int .i64 p) (.int .i64 r0) (.slice ba N bc)
  have hk0 : (w.alloc (.cells #[.int .i64 p, .int .i64 r0, .slice ba N bc] 51)).cell? ⟨w.heap.size, 0, none⟩ = some (.int .i64 p) := cell_of_row _ _ 0 _ _ _ (heap_alloc_new w _)
  obtain ⟨ra, rc, ps, hps, hpl, hrow, hcell⟩ := (hS.later hb0).row hm
  have hmi : (m : Int) < (n : Int) := hr.2
  have hyi : (y : Int) < (g.length : Int) := hb.2
  have HB := Lib.hid hb0
  by_cases hrp : (m : Int) < p
  · have HV := Lib.hid (ruleB_param (P := setsP n L) (g := g) (b := (y : Int)) (i := i) hrp)
    clear hS hM hPl hb0 hps hcell hrow hr hb
    go_enter Try.func156, Try.ntmps156
    go_wp2
    go_ret
    exact ⟨ret_bool HV.out.symm, HB.out⟩
  · have HV := Lib.hid (ruleB_not (g := g) (b := (y : Int)) (i := i) hrp (by rw [Int.toNat_natCast]; exact hps))
    cases ps with
    | nil =>
      clear hS hM hPl hb0 hps hcell hr hb
      have hrow : (w.alloc (.cells #[.int .i64 p, .int .i64 r0, .slice ba N bc] 51)).cell? ⟨gs, m, none⟩ = some (.slice ra 0 rc) := hrow
      go_enter Try.func156, Try.ntmps156
      go_wp2
      go_ret
      exact ⟨ret_bool HV.out.symm, HB.out⟩
    | cons a rest =>
      obtain ⟨b1, o1, k, rfl, h1, h2, h3⟩ := hcell a rest rfl
      have hain := hPl _ (List.mem_of_getElem? hps) a (by simp)
      obtain ⟨a1, a2⟩ := a
      obtain ⟨x, rfl⟩ : ∃ x : Nat, a1 = (x : Int) := ⟨a1.toNat, by have := hain.1; simp at this; omega⟩
      have hx : x < g.length := by have := hain.2; simp at this; omega
      obtain ⟨b2, o2, rb, ro, rc2, rfl, c1, c2⟩ := BMat.cell (hM.later bRowR_lasts hb0) hx hy
      have hxi : (x : Int) < (g.length : Int) := by omega
      have hlpos : (0 : Int) < ((rest.length + 1 : Nat) : Int) := by omega
      have hle : (((rest.length + 1 : Nat) : Int) == 0) = false := by simp; omega
      have hrow : (w.alloc (.cells #[.int .i64 p, .int .i64 r0, .slice ba N bc] 51)).cell? ⟨gs, m, none⟩ = some (.slice (some ⟨b1, o1, none⟩) (rest.length + 1) rc) := hrow
      have h2 : (w.alloc (.cells #[.int .i64 p, .int .i64 r0, .slice ba N bc] 51)).cell? ⟨k, 0, none⟩ = some (.int .i64 (x : Int)) := h2
      have h3 : (w.alloc (.cells #[.int .i64 p, .int .i64 r0, .slice ba N bc] 51)).cell? ⟨k, 1, none⟩ = some (.int .i64 a2) := h3
      have HV2 := Lib.hid (show ruleB (setsP n L) g p (m : Int) (y : Int) i = if (x : Int) = (y : Int) then decide (a2 < i) else domB g x y by
        rw [HV.out, ruleAt]; simp only [Int.toNat_natCast])
      have hll : rest.length + 1 ≤ 1048576 := by simp at hpl; omega
      clear hS hM hPl hb0 hps hcell hr hb hain HV
      by_cases hxy : (x : Int) = (y : Int)
      · have he : ((x : Int) == (y : Int)) = true := by simpa using hxy
        have HV3 := Lib.hid (HV2.out.trans (if_pos hxy))
        clear hxy
        go_enter Try.func156, Try.ntmps156
        go_wp2
        go_ret
        exact ⟨ret_bool HV3.out.symm, HB.out⟩
      · have he : ((x : Int) == (y : Int)) = false := by simpa using hxy
        have HV3 := Lib.hid (HV2.out.trans (if_neg hxy))
        clear hxy
        go_enter Try.func156, Try.ntmps156
        go_wp2
        go_ret
        exact ⟨ret_bool HV3.out.symm, HB.out⟩

/-! ### what is asked of a block, and of a code -/
def insLen (bs : List BlockD) (b : Int) : Int := (((bs[b.toNat]?).map (fun x => x.ins.length)).getD 0 : Nat)
/-- The uses of a phi: argument k at the end of the block that comes k-th. -/
noncomputable def phiRuled (P : List (List Pl)) (c : CodeD) (ps : List Int) (f : PhiD) : Bool := (List.range ps.length).all (fun k => ruleB P (nxs c) c.params (f.args.getD k 0) (ps.getD k 0) (insLen c.blocks (ps.getD k 0)))
noncomputable def insRuled (P : List (List Pl)) (c : CodeD) (b : Nat) (i : Nat) (x : InsD) : Bool := x.args.all (fun r => ruleB P (nxs c) c.params r (b : Int) (i : Int))
noncomputable def insAll (P : List (List Pl)) (c : CodeD) (b : Nat) (is : List InsD) : Nat → Bool
  | 0 => true
  | i + 1 => insAll P c b is i && ((is[i]?).map (insRuled P c b i)).getD true
noncomputable def blockRuled (P : List (List Pl)) (c : CodeD) (b : Nat) (x : BlockD) : Bool :=
  x.phis.all (phiRuled P c (preds (nxs c) (b : Int))) && (insAll P c b x.ins x.ins.length && (x.jump == 1 || ruleB P (nxs c) c.params x.jon (b : Int) x.ins.length))
noncomputable def blocksRuled (P : List (List Pl)) (c : CodeD) : Nat → Bool
  | 0 => true
  | b + 1 => blocksRuled P c b && ((c.blocks[b]?).map (blockRuled P c b)).getD true
/-- Each register is set once at most, a Param never. -/
def rowsOnce (P : List (List Pl)) (params : Int) : Nat → Bool
  | 0 => true
  | r + 1 => rowsOnce P params r && !(decide (1 < (P.getD r []).length) || (decide ((r : Int) < params) && decide (0 < (P.getD r []).length)))
noncomputable def singleB (c : CodeD) : Bool :=
  decide ((leftOf (nxs c)).length = (nxs c).length) && (rowsOnce (codeSets c) c.params c.regs.toNat && blocksRuled (codeSets c) c c.blocks.length)

end Go.Proofs.Ytkhnhdgbbjppeaa
