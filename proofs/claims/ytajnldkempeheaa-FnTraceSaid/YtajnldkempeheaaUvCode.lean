/-
  The program's test of a code.
-/
import Derived.Test.YtajnldkempeheaaUvIns
import Derived.Test.YtajnldkempeheaaPreds
import Derived.Deep.LoopGhost

namespace Go.Proofs.Ytajnldkempeheaa
open Go.RowKit

/-! ### sizes -/
theorem szS_get {α : Type} {sz : α → Nat} {xs : List α} {i : Nat} {x : α} {N : Nat} (h : szS sz xs ≤ N) (hx : xs[i]? = some x) : sz x ≤ N ∧ xs.length ≤ N := by
  have := sumOf_mem (sz := sz) (List.mem_of_getElem? hx)
  unfold szS at h
  omega
theorem szBlock_parts {x : BlockD} {N : Nat} (h : szBlockD x ≤ N) : szS szPhiD x.phis ≤ N ∧ szS szInsD x.ins ≤ N ∧ x.nx.length ≤ N := by
  unfold szBlockD at h
  omega

/-! ### what it computes -/
def allTo (p : Nat → Bool) : Nat → Bool
  | 0 => true
  | n + 1 => allTo p n && p n
theorem allTo_false {p : Nat → Bool} {i : Nat} (h : p i = false) : ∀ {n : Nat}, i < n → allTo p n = false
  | 0, hi => by omega
  | n + 1, hi => by
    by_cases hn : i = n
    · subst hn; rw [allTo, h, Bool.and_false]
    · rw [allTo, allTo_false h (n := n) (by omega), Bool.false_and]
def inB (n : Nat) (y : Int) : Bool := decide (1 ≤ y) && decide (y ≤ (n : Int) - 1)
def jumpB (regs : Int) (x : BlockD) : Bool := !((x.nx.length : Int) != nextN x.jump) && (if usesJ x.jump then inR regs x.jon else !(x.jon != 0))
def phiB (regs : Int) (b np : Nat) (f : PhiD) : Bool := !((b : Int) == 0) && inR regs f.to && !((f.args.length : Int) != (np : Int)) && !f.args.any (fun r => !inR regs r)
def blockB (us : List CodeD) (k : Nat) (c : CodeD) (b : Nat) (x : BlockD) : Bool :=
  jumpB c.regs x && !x.nx.any (fun y => !inB c.blocks.length y) && !x.ins.any (fun i => !insB us k c.regs i) && x.phis.all (phiB c.regs b (preds (nxs c) (b : Int)).length)
def limsB (c : CodeD) : Bool := (decide (0 ≤ c.regs) && decide (c.regs ≤ 300)) && (decide (0 ≤ c.params) && decide (c.params ≤ min 3 c.regs)) && (decide (1 ≤ (c.blocks.length : Int)) && decide ((c.blocks.length : Int) ≤ 160))
def codeB (us : List CodeD) (k : Nat) (c : CodeD) : Bool := limsB c && allTo (fun b => (c.blocks[b]?).all (blockB us k c b)) c.blocks.length

/-! ### the closures -/
theorem codeOk1_any (r regs : Int) (cb : Nat) (w : World) (hr : 0 ≤ regs ∧ regs ≤ 300) (hc : w.cell? ⟨cb, 1, none⟩ = some (.int .i64 regs)) :
    Calls Try.prog 59 #[.int .i64 r, .pointer (some ⟨cb, 0, none⟩)] w fun e w' => e = .returned (.bool (inR regs r)) ∧ w' = w := by
  go_enter Try.func59, Try.ntmps59
  go_wp2_with fail
  refine (within_any r 0 (regs - 1) w).mono ?_
  rintro e w1 ⟨rfl, rfl⟩
  go_wp2
  go_ret
  exact ⟨rfl, rfl⟩
set_option maxRecDepth 100000 in
theorem codeOk4_any (r regs : Int) (cb rb : Nat) (w : World) (hr : 0 ≤ regs ∧ regs ≤ 300) (hc : w.cell? ⟨cb, 1, none⟩ = some (.int .i64 regs)) (hf : w.cell? ⟨rb, 0, none⟩ = some (.func (.func 59) #[] #[.pointer (some ⟨cb, 0, none⟩)])) :
    Calls Try.prog 66 #[.int .i64 r, .pointer (some ⟨rb, 0, none⟩)] w fun e w' => e = .returned (.bool (!inR regs r)) ∧ w' = w := by
  have hen : ∀ v W, (callFunc 59 (#[v] ++ #[.pointer (some ⟨cb, 0, none⟩)])).run Try.prog W = .ok (.enter 59 (#[v] ++ #[.pointer (some ⟨cb, 0, none⟩)])) W := fun _ _ => rfl
  go_enter Try.func66, Try.ntmps66
  go_wp2_with fail
  refine (codeOk1_any r regs cb w hr hc).mono ?_
  rintro e w1 ⟨rfl, rfl⟩
  go_wp2
  go_ret
  exact ⟨rfl, rfl⟩
theorem codeOk2_any (y : Int) (cb n : Nat) (ba : Option Addr) (bc : Nat) (w : World) (hn : n ≤ 1048576) (hc : w.cell? ⟨cb, 2, none⟩ = some (.slice ba n bc)) :
    Calls Try.prog 62 #[.int .i64 y, .pointer (some ⟨cb, 0, none⟩)] w fun e w' => e = .returned (.bool (!inB n y)) ∧ w' = w := by
  go_enter Try.func62, Try.ntmps62
  go_wp2_with fail
  refine (within_any y 1 ((n : Int) - 1) w).mono ?_
  rintro e w1 ⟨rfl, rfl⟩
  go_wp2
  go_ret
  exact ⟨ret_bool (by rw [inB, Bool.not_and]), rfl⟩
set_option maxRecDepth 100000 in
theorem codeOk3_any (us : List CodeD) (ua : Option Addr) (uc k : Nat) (c : CodeD) (hk : us[k]? = some c) (hr : 0 ≤ c.regs ∧ c.regs ≤ 300) (hn : us.length ≤ 1048576) (cs : List Value) (x : InsD) (hx : x.args.length ≤ 1048576) (ub kb : Nat) (w : World) (hU : SliceRd 3 CodeR w ua us.length us) (hR : InsR w cs x)
    (hub : w.cell? ⟨ub, 0, none⟩ = some (.slice ua us.length uc)) (hkb : w.cell? ⟨kb, 0, none⟩ = some (.int .i64 (k : Int))) :
    Calls Try.prog 64 #[.agg cs.toArray, .pointer (some ⟨ub, 0, none⟩), .pointer (some ⟨kb, 0, none⟩)] w fun e w' => e = .returned (.bool (!insB us k c.regs x)) ∧ Below w.heap.size w w' := by
  have hb0 : Below w.heap.size w (w.alloc (.cells cs.toArray 83)) := (Below.refl _ _).alloc (Nat.le_refl _) _
  have hU1 := hU.later codeR_lasts hb0
  have hR1 := insR_lasts _ _ _ _ hb0 hR
  obtain ⟨aa, ac, rfl, _, _⟩ := hR
  have HC := Lib.hid (insOk_any us ua uc k c hk hr hn _ x hx _ hU1 hR1)
  have HB := Lib.hid hb0
  have hub' := cell_later hb0 hub
  have hkb' := cell_later hb0 hkb
  clear hU1 hR1 hU hk hb0 hub hkb
  go_enter Try.func64, Try.ntmps64
  go_wp2_with fail
  refine HC.out.mono ?_
  rintro e w1 ⟨rfl, hb1⟩
  go_wp2
  go_ret
  exact ⟨rfl, HB.out.trans (hb1.mono HB.out.size)⟩

theorem Four.later {n : Nat} {A B C D : Obj} {w w' : World} (h : Four n A B C D w) (hb : Below w.heap.size w w') : Four n A B C D w' := by
  have lt : ∀ {k : Nat} {o : Obj}, w.heap[k]? = some o → w'.heap[k]? = some o := fun hk => (hb.block _ (Array.getElem?_eq_some_iff.1 hk).1).trans hk
  exact ⟨lt h.a, lt h.b, lt h.c, lt h.d⟩

end Go.Proofs.Ytajnldkempeheaa
