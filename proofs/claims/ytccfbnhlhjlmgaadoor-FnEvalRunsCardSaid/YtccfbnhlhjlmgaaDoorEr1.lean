
/-
  A program of one function that gives an expression's value: it is valid, and its names are found (the program's checker, its parts).
-/
import Derived.Test.YtccfbnhlhjlmgaaDoorVs
import Derived.Test.YtccfbnhlhjlmgaaDoorDr5
import Derived.Test.YtccfbnhlhjlmgaaDoorEy9
import Derived.Deep.LoopGhost
import Derived.Test.YtccfbnhlhjlmgaaDoorVk
import Derived.Test.YtccfbnhlhjlmgaaDoorEy8
import Derived.StillTailTactics
import Derived.Deep.QuietTactic
import Derived.BigQuiet
import Derived.Carry

namespace Go.Proofs.YtccfbnhlhjlmgaaDoor
open Go.RowKit
set_option linter.unusedVariables false

theorem letter_name (b : UInt8) (h : letE (b.toNat : Int) = true) : nameD ⟨#[b]⟩ = true := by
  have h1 : hasE keysE ⟨#[b]⟩ = false := by
    simp only [hasE, keysE, ByteArray.toList_eq, List.any_cons, List.any_nil]
    simp
  rw [nameD, h1]
  show (true && (true && ((true && letE (b.toNat : Int)) && !false))) = true
  rw [h]; rfl
theorem nms_names : ∀ s ∈ nms, nameD s = true := by
  intro s hs
  simp only [nms, List.mem_cons, List.not_mem_nil, or_false] at hs
  rcases hs with rfl | rfl | rfl | rfl <;> exact letter_name _ (by decide)
def retS (x : ExprD) : StmtD := .mk 7 ⟨#[]⟩ [x] [] []
def retF (ns : List ByteArray) (x : ExprD) : FnD := ⟨⟨#[109]⟩, ns, [retS x]⟩
theorem ret_valid {ns : List ByteArray} {x : ExprD} (h1 : ns.length ≤ 3) (h2 : ∀ s ∈ ns, nameD s = true) (h3 : sizeD nameD 6 x ≠ none) : progB [retF ns x] = true := by
  have hv : validE x = true := by
    unfold validE
    cases h : sizeD nameD 6 x with
    | none => exact absurd h h3
    | some _ => rfl
  have hs : stmtB 4 (retS x) = true := by
    refine stmtB_of ?_ (by simp [retS, StmtD.body]) (by simp [retS, StmtD.els])
    have he : (⟨#[]⟩ : ByteArray).toList = [] := by rw [ByteArray.toList_eq]
    simp [retS, ownS, headS, StmtD.op, StmtD.name, StmtD.args, StmtD.body, StmtD.els, inE, hv, he]
  have hf : fnB (retF ns x) = true := by
    simp only [fnB, retF, Bool.and_eq_true, List.all_eq_true]
    exact ⟨⟨⟨letter_name _ (by decide), decide_eq_true h1⟩, h2⟩, by simpa using hs⟩
  have hc : cntP [retF ns x] = 1 := by simp [cntP, retF, sumN, cntS, retS, StmtD.body, StmtD.els]
  rw [progB, hc, formP]
  simp [hf]

theorem EnvAt.stay {w w' : World} {ve M n : Nat} {G : ByteArray → Option Int} (h : EnvAt w ve M n G) (h1 : w'.heap[ve]? = w.heap[ve]?) (h2 : w'.heap[M]? = w.heap[M]?) : EnvAt w' ve M n G :=
  ⟨(World.cell?_of_block h1).trans h.c0, (World.cell?_of_block h1).trans h.c1, h.vars.stay h2⟩
theorem EnvAt.turned {w w' : World} {ve M n : Nat} {G : ByteArray → Option Int} {T : Nat → Prop} (h : EnvAt w ve M n G) (ht : Turned T w w') (h1 : ¬ T ve) (h2 : ¬ T M) : EnvAt w' ve M n G :=
  h.stay (ht.block ve (World.block_lt_of_cell? w _ h.c0) h1) (ht.block M h.vars.lt h2)
/-- Names that have been laid, with 0. -/
def gZ (ns : List ByteArray) (t : ByteArray) : Option Int := if hasE ns t = true then some 0 else none
theorem list_inj {s t : ByteArray} (h : s.toList = t.toList) : s = t := by
  rw [ByteArray.toList_eq, ByteArray.toList_eq] at h
  have h3 := Array.toList_inj.1 h
  cases s; cases t; cases h3; rfl
theorem gZ_has {ns : List ByteArray} {t : ByteArray} (h : hasE ns t = true) : gZ ns t = some 0 := if_pos h
theorem hasE_mem {ns : List ByteArray} {t : ByteArray} : hasE ns t = true ↔ t ∈ ns := by
  constructor
  · intro h
    obtain ⟨x, hx, he⟩ := List.any_eq_true.1 h
    obtain rfl : t = x := list_inj (by simpa using he)
    exact hx
  · exact fun h => List.any_eq_true.2 ⟨t, h, by simp⟩
theorem gZ_new {ns : List ByteArray} {t : ByteArray} (h : t ∉ ns) : gZ ns t = none := if_neg fun e => h (hasE_mem.1 e)
theorem gZ_succ {ns : List ByteArray} {j : Nat} {s : ByteArray} (hs : ns[j]? = some s) (t : ByteArray) : (if t = s then some 0 else gZ (ns.take j) t) = gZ (ns.take (j + 1)) t := by
  rw [take_succ_of hs]
  by_cases h : t = s
  · rw [if_pos h]
    exact (gZ_has (hasE_mem.2 (by simp [h]))).symm
  · rw [if_neg h]
    by_cases h2 : t ∈ ns.take j
    · rw [gZ_has (hasE_mem.2 h2), gZ_has (hasE_mem.2 (List.mem_append_left _ h2))]
    · rw [gZ_new h2, gZ_new (by simp [h2, h])]

set_option maxRecDepth 100000 in
theorem find_any (sb M n : Nat) (G : ByteArray → Option Int) (s : ByteArray) (w : World) (hE : EnvAt w sb M n G) (hs : s.size ≤ maxLen) (hg : (G s).isSome = true) :
    Calls Tryd.prog 168 #[.pointer (some ⟨sb, 0, none⟩), .string s] w fun e w' => e = .returned (.tuple #[.int .i64 ((G s).getD 0), .bool true]) ∧ w' = w := by
  have v0 := hE.c0
  have hlk := hE.vars.look_ok hs
  rw [hg] at hlk
  clear hE
  go_enter Tryd.func168, Tryd.ntmps168
  go_wp2_with fail
  refine wp_loop_rounds 1 ?_
  rw [rounds_succ]
  go_wp2
  go_ret2
  exact ⟨rfl, rfl⟩

set_option maxRecDepth 100000 in
set_option maxHeartbeats 2000000 in
/-- The closure looks at one part. -/
theorem lookC_any (bs sb M n : Nat) (bc : Value) (ns : List ByteArray) (d : Nat) (cs : List Value) (x : ExprD) (w : World) (hx : ExprAt d w cs x) (hsz : ∀ s ∈ ns, s.size ≤ maxLen) (hb : badP ns x = false) (hs : w.cell? ⟨bs, 0, none⟩ = some (.pointer (some ⟨sb, 0, none⟩))) (hE : EnvAt w sb M n (gZ ns)) :
    Calls Tryd.prog 172 #[.agg cs.toArray, .pointer (some ⟨bs, 0, none⟩), bc] w fun e w' => e = .returned (.tuple #[]) ∧ Below w.heap.size w w' := by
  cases d with
  | zero => exact hx.elim
  | succ d =>
  obtain ⟨ka, kc, rfl, _, _⟩ := hx
  obtain ⟨op, n, name, kids⟩ := x
  simp only [ExprD.op, ExprD.n, ExprD.name, ExprD.kids]
  show Calls _ _ #[.agg #[.int .i64 op, .int .i64 n, .string name, .slice ka kids.length kc], _, _] w _
  have hba : Below w.heap.size w (w.alloc (.cells #[.int .i64 op, .int .i64 n, .string name, .slice ka kids.length kc] 29)) := (Below.refl _ _).alloc (Nat.le_refl _) _
  have hrow := heap_alloc_new w (.cells #[.int .i64 op, .int .i64 n, .string name, .slice ka kids.length kc] 29)
  have e0 := cell_of_row _ _ 0 _ _ _ hrow
  have e1 := cell_of_row _ _ 1 _ _ _ hrow
  have e2 := cell_of_row _ _ 2 _ _ _ hrow
  have e3 := cell_of_row _ _ 3 _ _ _ hrow
  simp only [List.getElem?_toArray, List.getElem?_cons_zero, List.getElem?_cons_succ] at e0 e1 e2 e3
  have HB := Lib.hid hba
  have s0 := cell_later hba hs
  have HEV := Lib.hid (hE.later hba)
  have hb0 : ((op == 12) || ((op == 13) || ((op == 2) && !hasE ns name))) = false := hb
  rw [Bool.or_eq_false_iff, Bool.or_eq_false_iff] at hb0
  obtain ⟨-, o13, o2⟩ := hb0
  have HZ := Lib.hid hsz
  clear hba hrow hs hE hb hsz
  go_enter Tryd.func172, Tryd.ntmps172
  go_upto_region 1 with fail
  generalize w.alloc (.cells #[.int .i64 op, .int .i64 n, .string name, .slice ka kids.length kc] 29) = W1 at HB HEV e0 e1 e2 e3 s0 ⊢
  by_cases h2 : op = 2
  · subst h2
    have hn : hasE ns name = true := by simpa using o2
    have HF := Lib.hid (find_any sb _ _ (gZ ns) name W1 HEV.out (has_size HZ.out hn) (by rw [gZ_has hn]; rfl))
    clear o2 o13 hn
    go_wp2_with fail
    refine HF.out.mono ?_
    rintro e w2 ⟨rfl, rfl⟩
    go_wp2
    go_end0
    exact ⟨rfl, HB.out⟩
  · have o2b : (op == 2) = false := by simpa using h2
    clear o2 h2
    go_wp2
    go_end0
    exact ⟨rfl, HB.out⟩

set_option maxRecDepth 100000 in
set_option maxHeartbeats 4000000 in
/-- The parts are looked at, one by one. -/
theorem partsC_any (bs sb M n : Nat) (bc : Value) (ns : List ByteArray) (hsz : ∀ s ∈ ns, s.size ≤ maxLen) : ∀ (d : Nat) (cs : List Value) (x : ExprD) (w : World), ExprAt d w cs x → anyE (badP ns) d x = false → w.cell? ⟨bs, 0, none⟩ = some (.pointer (some ⟨sb, 0, none⟩)) → EnvAt w sb M n (gZ ns) →
    Calls Tryd.prog 64 #[.agg cs.toArray, .func (.func 172) #[] #[.pointer (some ⟨bs, 0, none⟩), bc]] w fun e w' => e = .returned (.tuple #[]) ∧ Below w.heap.size w w' := by
  intro d
  induction d with
  | zero => exact fun _ _ _ h => h.elim
  | succ d ih =>
  intro cs x w hx hN hs hE
  have hx2 := hx
  obtain ⟨ka, kc, rfl, ⟨hkl, -⟩, hks⟩ := hx2
  obtain ⟨hn, hnk⟩ := any_partsE hN
  have hkl2 : x.kids.length ≤ 9223372036854775807 := by unfold maxLen at hkl; omega
  have hba : Below w.heap.size w (w.alloc (.cells #[.int .i64 x.op, .int .i64 x.n, .string x.name, .slice ka x.kids.length kc] 29)) := (Below.refl _ _).alloc (Nat.le_refl _) _
  have hrow := heap_alloc_new w (.cells #[.int .i64 x.op, .int .i64 x.n, .string x.name, .slice ka x.kids.length kc] 29)
  have e0 := cell_of_row _ _ 0 _ _ _ hrow
  have e1 := cell_of_row _ _ 1 _ _ _ hrow
  have e2 := cell_of_row _ _ 2 _ _ _ hrow
  have e3 := cell_of_row _ _ 3 _ _ _ hrow
  simp only [List.getElem?_toArray, List.getElem?_cons_zero, List.getElem?_cons_succ] at e0 e1 e2 e3
  have HL := Lib.hid (lookC_any bs sb M n bc ns (d + 1) _ x _ ((exprAt_lasts (d + 1)) _ _ _ _ hba hx) hsz hn (cell_later hba hs) (hE.later hba))
  have HA := Lib.hid (And.intro hba hrow)
  have HK := Lib.hid (And.intro hks hnk)
  have HSE := Lib.hid (And.intro hs hE)
  have hen : ∀ v W, (callFunc 172 (#[v] ++ #[.pointer (some ⟨bs, 0, none⟩), bc])).run Tryd.prog W = .ok (.enter 172 (#[v] ++ #[.pointer (some ⟨bs, 0, none⟩), bc])) W := fun v W => by kernel_rfl
  clear hx hks hba hrow hn hnk hN hs hE
  go_enter Tryd.func64, Tryd.ntmps64
  go_wp2_with fail
  refine HL.out.mono ?_
  rintro e w2 ⟨rfl, hb2⟩
  obtain ⟨b, hb⟩ : ∃ b, b = w.heap.size := ⟨_, rfl⟩
  have hrow2 := (hb2.block _ (Array.getElem?_eq_some_iff.1 HA.out.2).1).trans HA.out.2
  rw [← hb] at hrow2 ⊢
  have g3 := cell_of_row _ _ 3 _ _ _ hrow2
  simp only [List.getElem?_toArray, List.getElem?_cons_zero, List.getElem?_cons_succ] at g3
  have H2 := Lib.hid (HA.out.1.trans (hb2.mono HA.out.1.size))
  clear hrow2 hb2 hb e0 e1 e2 e3 hen HL
  go_wp2_with fail
  clear g3
  go_loopg [12] x.kids.length (fun G i wr => ∃ (j : Nat), j + G = x.kids.length ∧ i = .int .i64 j ∧ Hid (Below w.heap.size w wr))
  case atStart => exact ⟨0, by omega, rfl, H2⟩
  case round =>
    obtain ⟨j, hj, rfl, HR⟩ := hrel
    by_cases hlt : j < x.kids.length
    · obtain ⟨b1, o1, k, cs1, rfl, hk, hkR, k1, k2, rfl, c0, c1, c2, c3⟩ := kid_place HK.out.1 hlt
      have hki : (j : Int) < (x.kids.length : Int) := by omega
      have d0 := cell_later HR.out c0
      have d1 := cell_later HR.out c1
      have d2 := cell_later HR.out c2
      have d3 := cell_later HR.out c3
      have hba : Below wr.heap.size wr (wr.alloc (.cells #[.int .i64 k.op, .int .i64 k.n, .string k.name, .slice k1 k.kids.length k2] 29)) := (Below.refl _ _).alloc (Nat.le_refl _) _
      have hrow := heap_alloc_new wr (.cells #[.int .i64 k.op, .int .i64 k.n, .string k.name, .slice k1 k.kids.length k2] 29)
      have e0 := cell_of_row _ _ 0 _ _ _ hrow
      have e1 := cell_of_row _ _ 1 _ _ _ hrow
      have e2 := cell_of_row _ _ 2 _ _ _ hrow
      have e3 := cell_of_row _ _ 3 _ _ _ hrow
      simp only [List.getElem?_toArray, List.getElem?_cons_zero, List.getElem?_cons_succ] at e0 e1 e2 e3
      have hb3 := HR.out.trans (hba.mono HR.out.size)
      have HQ := Lib.hid (ih _ k _ (exprAt_lasts d _ _ _ _ hb3 hkR) (HK.out.2 k (List.mem_of_getElem? hk)) (cell_later hb3 HSE.out.1) (HSE.out.2.later hb3))
      have HT := Lib.hid hb3
      clear hba hrow hb3 hk hkR c0 c1 c2 c3 ih
      go_wp2_with fail
      refine HQ.out.mono ?_
      rintro e w5 ⟨rfl, hb5⟩
      have HE := Lib.hid (HT.out.trans (hb5.mono HT.out.size))
      clear hb5 d0 d1 d2 d3 e0 e1 e2 e3
      go_wp2
      go_roundg (gk - 1)
      case measure => omega
      case rel => exact ⟨j + 1, by omega, by go_num, HE⟩
    · obtain rfl : j = x.kids.length := by omega
      go_wp2
      go_end0
      exact ⟨rfl, HR.out⟩

set_option maxRecDepth 100000 in
set_option maxHeartbeats 2000000 in
theorem exprC_any (cb sb M n : Nat) (ns : List ByteArray) (hsz : ∀ s ∈ ns, s.size ≤ maxLen) (d : Nat) (cs : List Value) (x : ExprD) (w : World) (hx : ExprAt d w cs x) (hN : anyE (badP ns) d x = false) (hE : EnvAt w sb M n (gZ ns)) :
    Calls Tryd.prog 167 #[.pointer (some ⟨cb, 0, none⟩), .agg cs.toArray, .pointer (some ⟨sb, 0, none⟩)] w fun e w' => e = .returned (.tuple #[]) ∧ Below w.heap.size w w' := by
  cases d with
  | zero => exact hx.elim
  | succ d =>
  have hx2 := hx
  obtain ⟨ka, kc, rfl, _, _⟩ := hx2
  have hmf : ∀ (fn : Fn) (first cap : Array Value) (w : World), (Instr.makeFunc fn first cap).run Tryd.prog w = .ok (.func fn first cap) w := fun _ _ _ _ => rfl
  have hb1 : Below w.heap.size w (((w.alloc (.cells #[.pointer (some ⟨cb, 0, none⟩)] 168)).alloc (.cells #[.int .i64 x.op, .int .i64 x.n, .string x.name, .slice ka x.kids.length kc] 29)).alloc (.cells #[.pointer (some ⟨sb, 0, none⟩)] 171)) := (((Below.refl _ _).alloc (Nat.le_refl _) _).alloc (by simp) _).alloc (by simp; omega) _
  have r2 := heap_alloc_new ((w.alloc (.cells #[.pointer (some ⟨cb, 0, none⟩)] 168)).alloc (.cells #[.int .i64 x.op, .int .i64 x.n, .string x.name, .slice ka x.kids.length kc] 29)) (.cells #[.pointer (some ⟨sb, 0, none⟩)] 171)
  have r1 := ((Below.refl _ _).alloc (Nat.le_refl _) (.cells #[.pointer (some ⟨sb, 0, none⟩)] 171) : Below ((w.alloc (.cells #[.pointer (some ⟨cb, 0, none⟩)] 168)).alloc (.cells #[.int .i64 x.op, .int .i64 x.n, .string x.name, .slice ka x.kids.length kc] 29)).heap.size _ _).block _ (by simp) |>.trans (heap_alloc_new (w.alloc (.cells #[.pointer (some ⟨cb, 0, none⟩)] 168)) (.cells #[.int .i64 x.op, .int .i64 x.n, .string x.name, .slice ka x.kids.length kc] 29))
  rw [World.size_alloc, World.size_alloc] at r2
  rw [World.size_alloc] at r1
  have e0 := cell_of_row _ _ 0 _ _ _ r1
  have e1 := cell_of_row _ _ 1 _ _ _ r1
  have e2 := cell_of_row _ _ 2 _ _ _ r1
  have e3 := cell_of_row _ _ 3 _ _ _ r1
  simp only [List.getElem?_toArray, List.getElem?_cons_zero, List.getElem?_cons_succ] at e0 e1 e2 e3
  have s0 := cell_of_row _ _ 0 _ _ _ r2
  simp only [List.getElem?_toArray, List.getElem?_cons_zero] at s0
  have HQ := Lib.hid (partsC_any (w.heap.size + 1 + 1) sb M n (.pointer (some ⟨w.heap.size, 0, none⟩)) ns hsz (d + 1) _ x _ (exprAt_lasts (d + 1) _ _ _ _ hb1 hx) hN s0 (hE.later hb1))
  have HB := Lib.hid hb1
  clear hx hN hE r1 r2 s0 hb1 hsz
  go_enter Tryd.func167, Tryd.ntmps167
  go_wp2_with fail
  refine HQ.out.mono ?_
  rintro e w2 ⟨rfl, hb2⟩
  have HE := Lib.hid (HB.out.trans (hb2.mono HB.out.size))
  clear hb2 e0 e1 e2 e3
  go_wp2
  go_end0
  exact ⟨rfl, HE.out⟩

end Go.Proofs.YtccfbnhlhjlmgaaDoor

/-
  A program of one function that gives an expression's value: the program's CheckProgram finds nothing wrong.
-/
namespace Go.Proofs.YtccfbnhlhjlmgaaDoor
open Go.RowKit
set_option linter.unusedVariables false

def sameN (s : ByteArray) (f : FnD) : Bool := f.name.toList == s.toList
set_option maxRecDepth 100000 in
theorem fnAtC_any (nb : Nat) (s : ByteArray) (D : Nat) (S : Nat → Prop) (cs : List Value) (x : FnD) (w : World) (hx : FnP D S w cs x) (hn : w.cell? ⟨nb, 0, none⟩ = some (.string s)) :
    Calls Tryd.prog 73 (#[.agg cs.toArray] ++ #[.pointer (some ⟨nb, 0, none⟩)]) w fun e w' => e = .returned (.bool (sameN s x)) ∧ Below w.heap.size w w' := by
  obtain ⟨pa, pc, ba, bc, rfl, -, -, -⟩ := hx
  show Calls _ _ #[.agg #[.string x.name, .slice pa x.params.length pc, .slice ba x.body.length bc], _] w _
  have hba : Below w.heap.size w (w.alloc (.cells #[.string x.name, .slice pa x.params.length pc, .slice ba x.body.length bc] 41)) := (Below.refl _ _).alloc (Nat.le_refl _) _
  have hrow := heap_alloc_new w (.cells #[.string x.name, .slice pa x.params.length pc, .slice ba x.body.length bc] 41)
  have e0 := cell_of_row _ _ 0 _ _ _ hrow
  simp only [List.getElem?_toArray, List.getElem?_cons_zero] at e0
  have n0 := cell_later hba hn
  have HB := Lib.hid hba
  clear hba hrow hn
  go_enter Tryd.func73, Tryd.ntmps73
  go_wp2
  go_ret
  exact ⟨rfl, HB.out⟩
set_option maxRecDepth 100000 in
set_option maxHeartbeats 2000000 in
theorem fnAt_any (D : Nat) (S : Nat → Prop) (a : Option Addr) (c : Nat) (p : List FnD) (s : ByteArray) (w : World) (h : ListK 3 (FnP D) S w a p) (hl : p.length ≤ 100) :
    Calls Tryd.prog 19 #[.agg #[.slice a p.length c], .string s] w fun e w' => e = .returned (.int .i64 (idxR (sameN s) 0 p)) ∧ Below w.heap.size w w' := by
  have hmf : ∀ (fn : Fn) (first cap : Array Value) (w : World), (Instr.makeFunc fn first cap).run Tryd.prog w = .ok (.func fn first cap) w := fun _ _ _ _ => rfl
  have hb1 : Below w.heap.size w ((w.alloc (.cells #[.slice a p.length c] 34)).alloc (.cells #[.string s] 9)) := ((Below.refl _ _).alloc (Nat.le_refl _) _).alloc (by simp) _
  have p0 := cell_of_row _ _ 0 _ _ _ (heap_alloc2_old w (.cells #[.slice a p.length c] 34) (.cells #[.string s] 9))
  have s0 := cell_of_row _ _ 0 _ _ _ (heap_alloc2_new w (.cells #[.slice a p.length c] 34) (.cells #[.string s] 9))
  simp only [List.getElem?_toArray, List.getElem?_cons_zero] at p0 s0
  have HI := Lib.hid (idxF_any 73 #[.pointer (some ⟨w.heap.size + 1, 0, none⟩)] D S (sameN s) a c p _ (h.below (fnP_stays D) hb1) (by omega) ⟨fun v W => by kernel_rfl, fun x _ cs W hW hx => fnAtC_any _ s D S cs x W hx (cell_later hW s0)⟩)
  have HB := Lib.hid hb1
  clear hb1 h s0
  go_enter Tryd.func19, Tryd.ntmps19
  go_wp2_with fail
  refine HI.out.mono ?_
  rintro e w2 ⟨rfl, hb2⟩
  have HE := Lib.hid (HB.out.trans (hb2.mono HB.out.size))
  clear hb2 p0
  go_wp2
  go_ret
  exact ⟨rfl, HE.out⟩

set_option maxRecDepth 100000 in
set_option maxHeartbeats 4000000 in
theorem blockC_any (cb sb M n : Nat) (ns : List ByteArray) (hsz : ∀ s ∈ ns, s.size ≤ maxLen) (D : Nat) (S : Nat → Prop) (a : Option Addr) (c : Nat) (x : ExprD) (w : World) (h : ListK 5 (StmtP (D + 1)) S w a [retS x]) (hN : anyE (badP ns) 12 x = false) (hE : EnvAt w sb M n (gZ ns)) :
    Calls Tryd.prog 163 #[.pointer (some ⟨cb, 0, none⟩), .slice a 1 c, .pointer (some ⟨sb, 0, none⟩)] w fun e w' => e = .returned (.tuple #[]) ∧ Below w.heap.size w w' := by
  obtain ⟨b, off, x', aa, ac, ba, bc, ea, ec, rfl, hx, hR, c0, c1, c2, c3, c4⟩ := stmt_place h (show 0 < [retS x].length by simp)
  obtain rfl : x' = retS x := by simpa using hx.symm
  obtain ⟨aa', ac', ba', bc', ea', ec', he, hbd, hA, -, -⟩ := hR
  cases he
  simp only [Nat.zero_mul, Nat.add_zero] at c0 c1 c2 c3 c4
  change w.cell? _ = some (.int .i64 7) at c0
  change w.cell? _ = some (.string ⟨#[]⟩) at c1
  change w.cell? _ = some (.slice aa 1 ac) at c2
  change w.cell? _ = some (.slice ba 0 bc) at c3
  change w.cell? _ = some (.slice ea 0 ec) at c4
  have hba : Below w.heap.size w (w.alloc (.cells #[.int .i64 7, .string ⟨#[]⟩, .slice aa 1 ac, .slice ba 0 bc, .slice ea 0 ec] 46)) := (Below.refl _ _).alloc (Nat.le_refl _) _
  have hrow := heap_alloc_new w (.cells #[.int .i64 7, .string ⟨#[]⟩, .slice aa 1 ac, .slice ba 0 bc, .slice ea 0 ec] 46)
  obtain ⟨b1, off1, k, ka, kc, rfl, hk, hkR, d0, d1, d2, d3⟩ := expr_place (show ListK 4 (exprK 12) S w aa [x] from hA) (show 0 < [x].length by simp)
  obtain rfl : k = x := by simpa using hk.symm
  simp only [Nat.zero_mul, Nat.add_zero] at d0 d1 d2 d3
  have HX := Lib.hid (exprP_at hkR.1)
  have HN := Lib.hid hN
  have HE := Lib.hid hE
  have HZ := Lib.hid hsz
  have HB := Lib.hid (And.intro hba hrow)
  clear h hx hA hbd hk hkR hba hrow hN hE hsz
  go_enter Tryd.func163, Tryd.ntmps163
  go_wp2_with fail
  go_loopg [16] 1 (fun G i wr => ∃ (j : Nat), j + G = 1 ∧ i = .int .i64 j ∧ Hid (Below w.heap.size w wr ∧ (j = 0 → wr = w)))
  case atStart => exact ⟨0, by omega, rfl, Lib.hid ⟨Below.refl _ _, fun _ => rfl⟩⟩
  case round =>
    obtain ⟨j, hj, rfl, HR⟩ := hrel
    by_cases hlt : j < 1
    · obtain rfl : j = 0 := by omega
      obtain rfl : w = wr := (HR.out.2 rfl).symm
      have e0 := cell_of_row _ _ 0 _ _ _ HB.out.2
      have e1 := cell_of_row _ _ 1 _ _ _ HB.out.2
      have e2 := cell_of_row _ _ 2 _ _ _ HB.out.2
      have e3 := cell_of_row _ _ 3 _ _ _ HB.out.2
      have e4 := cell_of_row _ _ 4 _ _ _ HB.out.2
      simp only [List.getElem?_toArray, List.getElem?_cons_zero, List.getElem?_cons_succ] at e0 e1 e2 e3 e4
      have d0' := cell_later HB.out.1 d0
      have d1' := cell_later HB.out.1 d1
      have d2' := cell_later HB.out.1 d2
      have d3' := cell_later HB.out.1 d3
      have HX1 := Lib.hid (exprAt_lasts 12 _ _ _ _ HB.out.1 HX.out)
      have HE1 := Lib.hid (HE.out.later HB.out.1)
      go_wp2_with fail
      clear c0 c1 c2 c3 c4 d0 d1 d2 d3
      obtain ⟨tb, htb⟩ : ∃ b, b = w.heap.size := ⟨_, rfl⟩
      have HTB := Lib.hid htb
      have HB1 := Lib.hid HB.out
      rw [← htb] at HB1 e0 e1 e2 e3 e4 ⊢
      clear htb
      generalize w.alloc (.cells #[.int .i64 7, .string ⟨#[]⟩, .slice (some ⟨b1, off1, none⟩) 1 ac, .slice ba 0 bc, .slice ea 0 ec] 46) = W1 at HB HB1 HX1 HE1 d0' d1' d2' d3' e0 e1 e2 e3 e4 ⊢
      go_loopg [23] 1 (fun G i wx => ∃ (j : Nat), j + G = 1 ∧ i = .int .i64 j ∧ Hid (Below W1.heap.size W1 wx ∧ (j = 0 → wx = W1)))
      case atStart => exact ⟨0, by omega, rfl, Lib.hid ⟨Below.refl _ _, fun _ => rfl⟩⟩
      case round =>
        obtain ⟨j, hj, rfl, HR2⟩ := hrel
        by_cases hlt : j < 1
        · obtain rfl : j = 0 := by omega
          obtain rfl : W1 = wr := (HR2.out.2 rfl).symm
          have hba : Below W1.heap.size W1 (W1.alloc (.cells #[.int .i64 k.op, .int .i64 k.n, .string k.name, .slice ka k.kids.length kc] 29)) := (Below.refl _ _).alloc (Nat.le_refl _) _
          have hr2 := heap_alloc_new W1 (.cells #[.int .i64 k.op, .int .i64 k.n, .string k.name, .slice ka k.kids.length kc] 29)
          have q0 := cell_of_row _ _ 0 _ _ _ hr2
          have q1 := cell_of_row _ _ 1 _ _ _ hr2
          have q2 := cell_of_row _ _ 2 _ _ _ hr2
          have q3 := cell_of_row _ _ 3 _ _ _ hr2
          simp only [List.getElem?_toArray, List.getElem?_cons_zero, List.getElem?_cons_succ] at q0 q1 q2 q3
          have HQ := Lib.hid (exprC_any cb sb M n ns HZ.out 12 _ k _ (exprAt_lasts 12 _ _ _ _ hba HX1.out) HN.out (HE1.out.later hba))
          have HBA := Lib.hid hba
          clear hba hr2 e0 e1 e2 e3 e4
          go_wp2_with fail
          refine HQ.out.mono ?_
          rintro e w5 ⟨rfl, hb5⟩
          have HB5 := Lib.hid (HBA.out.trans (hb5.mono HBA.out.size))
          clear hb5 q0 q1 q2 q3 d0' d1' d2' d3'
          go_wp2
          go_roundg (gk - 1)
          case measure => omega
          case rel => exact ⟨1, by omega, by go_num, Lib.hid ⟨HB5.out, fun h => by cases h⟩⟩
        · obtain rfl : j = 1 := by omega
          have hlt1 := (Array.getElem?_eq_some_iff.1 HB1.out.2).1
          have f0 := cell_later HR2.out.1 e0
          have HF := Lib.hid (HB.out.1.trans (HR2.out.1.mono HB.out.1.size))
          clear hlt1 e0 e1 e2 e3 e4 d0' d1' d2' d3'
          go_wp2
          go_roundg (gk - 1)
          case measure => omega
          case rel => exact ⟨1, by omega, by go_num, Lib.hid ⟨HF.out, fun h => by cases h⟩⟩
    · obtain rfl : j = 1 := by omega
      go_wp2
      go_end0
      exact ⟨rfl, HR.out.1⟩

set_option maxRecDepth 100000 in
theorem openC_any (w : World) : Calls Tryd.prog 162 #[.pointer none] w fun e w' => e = .returned (.pointer (some ⟨w.heap.size + 1, 0, none⟩)) ∧ Below w.heap.size w w' ∧ EnvAt w' (w.heap.size + 1) w.heap.size 0 (fun _ => none) ∧ w.heap.size + 1 < w'.heap.size := by
  have hmm := @run_makeMap Tryd.prog
  have HE := Lib.hid (show Below w.heap.size w ((w.alloc (.map #[] 0)).alloc (.cells #[.map (some w.heap.size), .pointer none] 174)) ∧ EnvAt ((w.alloc (.map #[] 0)).alloc (.cells #[.map (some w.heap.size), .pointer none] 174)) (w.heap.size + 1) w.heap.size 0 (fun _ => none) ∧ w.heap.size + 1 < ((w.alloc (.map #[] 0)).alloc (.cells #[.map (some w.heap.size), .pointer none] 174)).heap.size from
    ⟨((Below.refl _ _).alloc (Nat.le_refl _) _).alloc (by simp) _, ⟨cell_of_row _ _ 0 _ _ _ (heap_alloc2_new w _ _), cell_of_row _ _ 1 _ _ _ (heap_alloc2_new w _ _), VarsAt.of (heap_alloc2_old w _ _)⟩, by simp⟩)
  go_enter Tryd.func162, Tryd.ntmps162
  go_wp2
  go_ret
  exact ⟨rfl, HE.out⟩

set_option maxRecDepth 100000 in
set_option maxHeartbeats 8000000 in
theorem checkProgram_any (ns : List ByteArray) (x : ExprD) (D : Nat) (S : Nat → Prop) (fa : Option Addr) (fc : Nat) (w : World) (hO : OpsAt w) (hK : KeysAt w) (h : ListK 3 (FnP (D + 1)) S w fa [retF ns x]) (hns : ns.length ≤ 3) (hnv : ∀ s ∈ ns, nameD s = true) (hsz : ∀ s ∈ ns, s.size ≤ maxLen) (hd : ∀ j s, ns[j]? = some s → s ∉ ns.take j)
    (hs : sizeD nameD 6 x ≠ none) (hN : anyE (badP ns) 12 x = false) :
    Calls Tryd.prog 154 #[.agg #[.slice fa 1 fc]] w fun e w' => e = .returned (.int .i64 0) ∧ Below w.heap.size w w' := by
  have hba : Below w.heap.size w (w.alloc (.cells #[.slice fa 1 fc] 34)) := (Below.refl _ _).alloc (Nat.le_refl _) _
  have hrow := heap_alloc_new w (.cells #[.slice fa 1 fc] 34)
  have hP0 := progValidI_any (D + 1) S fa fc [retF ns x] _ (hO.later hba) (hK.later hba) (h.below (fnP_stays (D + 1)) hba) (by simp)
  rw [ret_valid hns hnv hs] at hP0
  have HP := Lib.hid (show Calls Tryd.prog 21 #[.agg #[.slice fa 1 fc]] (w.alloc (.cells #[.slice fa 1 fc] 34)) fun e w' => e = .returned (.bool true) ∧ Below (w.alloc (.cells #[.slice fa 1 fc] 34)).heap.size (w.alloc (.cells #[.slice fa 1 fc] 34)) w' from hP0)
  have HB := Lib.hid (And.intro hba hrow)
  have HL := Lib.hid h
  have HN := Lib.hid (And.intro hns (And.intro hsz (And.intro hd hN)))
  clear hP0 hba hrow h hO hK hns hnv hsz hd hs hN
  go_enter Tryd.func154, Tryd.ntmps154
  go_upto_region 1 with fail
  obtain ⟨pb, hpb⟩ : ∃ b, b = w.heap.size := ⟨_, rfl⟩
  generalize w.alloc (.cells #[.slice fa 1 fc] 34) = W1 at HP HB ⊢
  rw [← hpb] at HB ⊢
  have HB1 := Lib.hid (show Below w.heap.size w W1 ∧ W1.heap[pb]? = some (.cells #[.slice fa 1 fc] 34 (0, 0)) from by rw [← hpb]; exact HB.out)
  clear HB hpb
  have p0 := cell_of_row _ _ 0 _ _ _ HB1.out.2
  simp only [List.getElem?_toArray, List.getElem?_cons_zero] at p0
  go_wp2_with fail
  refine HP.out.mono ?_
  rintro e w2 ⟨rfl, hb2⟩
  have H2 := Lib.hid (show Below w.heap.size w w2 ∧ w2.heap[pb]? = some (.cells #[.slice fa 1 fc] 34 (0, 0)) from ⟨HB1.out.1.trans (hb2.mono HB1.out.1.size), (hb2.block _ (Array.getElem?_eq_some_iff.1 HB1.out.2).1).trans HB1.out.2⟩)
  clear hb2 p0 HB1 HP
  have p0 := cell_of_row _ _ 0 _ _ _ H2.out.2
  simp only [List.getElem?_toArray, List.getElem?_cons_zero] at p0
  go_upto_region 4 with fail
  obtain ⟨cb, hcb⟩ : ∃ b, b = w2.heap.size := ⟨_, rfl⟩
  have H3 := Lib.hid (show Below w.heap.size w (w2.alloc (.cells #[.slice fa 1 fc, .int .i64 0, .int .i64 0] 170)) ∧ (w2.alloc (.cells #[.slice fa 1 fc, .int .i64 0, .int .i64 0] 170)).heap[pb]? = some (.cells #[.slice fa 1 fc] 34 (0, 0)) ∧ (w2.alloc (.cells #[.slice fa 1 fc, .int .i64 0, .int .i64 0] 170)).heap[cb]? = some (.cells #[.slice fa 1 fc, .int .i64 0, .int .i64 0] 170 (0, 0)) ∧ w.heap.size ≤ cb ∧ pb < cb from by
    have hba : Below w2.heap.size w2 (w2.alloc (.cells #[.slice fa 1 fc, .int .i64 0, .int .i64 0] 170)) := (Below.refl _ _).alloc (Nat.le_refl _) _
    have hlt := (Array.getElem?_eq_some_iff.1 H2.out.2).1
    have hsz := H2.out.1.size
    exact ⟨H2.out.1.trans (hba.mono hsz), (hba.block _ hlt).trans H2.out.2, by rw [hcb]; exact heap_alloc_new w2 _, by omega, by omega⟩)
  generalize w2.alloc (.cells #[.slice fa 1 fc, .int .i64 0, .int .i64 0] 170) = W3 at H3 ⊢
  rw [← hcb]
  clear hcb p0 H2
  have p0 := cell_of_row _ _ 0 _ _ _ H3.out.2.1
  simp only [List.getElem?_toArray, List.getElem?_cons_zero] at p0
  go_wp2_with fail
  go_loopg [20] 1 (fun G i wr => ∃ (j : Nat), j + G = 1 ∧ i = .int .i64 j ∧ Hid (Below w.heap.size w wr ∧ (∃ k, wr.heap[cb]? = some (.cells #[.slice fa 1 fc, k, .int .i64 0] 170 (0, 0))) ∧ (j = 0 → wr = W3)))
  case atStart => exact ⟨0, by omega, rfl, Lib.hid ⟨H3.out.1, ⟨_, H3.out.2.2.1⟩, fun _ => rfl⟩⟩
  case round =>
    obtain ⟨j, hj, rfl, HR⟩ := hrel
    by_cases hlt : j < 1
    · obtain rfl : j = 0 := by omega
      obtain rfl : W3 = wr := (HR.out.2.2 rfl).symm
      obtain rfl : gk = 1 := by omega
      obtain ⟨b, off, f, pa, pc, ba, bc, rfl, hx, hR, c0, c1, c2⟩ := fn_place HL.out (show 0 < [retF ns x].length by simp)
      obtain rfl : f = retF ns x := by simpa using hx.symm
      obtain ⟨pa', pc', ba', bc', he, hbd, hPd, hBd⟩ := hR
      cases he
      simp only [Nat.zero_mul, Nat.add_zero] at c0 c1 c2
      replace c0 : W3.cell? _ = some (.string ⟨#[109]⟩) := cell_later H3.out.1 c0
      replace c1 : W3.cell? _ = some (.slice pa ns.length pc) := cell_later H3.out.1 c1
      replace c2 : W3.cell? _ = some (.slice ba 1 bc) := cell_later H3.out.1 c2
      change ListK 1 strP _ w pa ns at hPd
      change ListK 5 (StmtP (D + 1)) _ w ba [retS x] at hBd
      have HPB := Lib.hid (And.intro hPd hBd)
      clear hx hbd hPd hBd hj hlt
      go_upto_region 7 with fail
      obtain ⟨tb, htb⟩ : ∃ b, b = W3.heap.size := ⟨_, rfl⟩
      have H4 := Lib.hid (show Below w.heap.size w (W3.alloc (.cells #[.string ⟨#[109]⟩, .slice pa ns.length pc, .slice ba 1 bc] 41)) ∧ Below w.heap.size W3 (W3.alloc (.cells #[.string ⟨#[109]⟩, .slice pa ns.length pc, .slice ba 1 bc] 41)) ∧ (W3.alloc (.cells #[.string ⟨#[109]⟩, .slice pa ns.length pc, .slice ba 1 bc] 41)).heap[pb]? = some (.cells #[.slice (some ⟨b, off, none⟩) 1 fc] 34 (0, 0)) ∧
          (W3.alloc (.cells #[.string ⟨#[109]⟩, .slice pa ns.length pc, .slice ba 1 bc] 41)).heap[cb]? = some (.cells #[.slice (some ⟨b, off, none⟩) 1 fc, .int .i64 0, .int .i64 0] 170 (0, 0)) ∧ (W3.alloc (.cells #[.string ⟨#[109]⟩, .slice pa ns.length pc, .slice ba 1 bc] 41)).heap[tb]? = some (.cells #[.string ⟨#[109]⟩, .slice pa ns.length pc, .slice ba 1 bc] 41 (0, 0)) ∧ w.heap.size ≤ cb ∧ cb < tb ∧ pb < cb from by
        have hba : Below W3.heap.size W3 (W3.alloc (.cells #[.string ⟨#[109]⟩, .slice pa ns.length pc, .slice ba 1 bc] 41)) := (Below.refl _ _).alloc (Nat.le_refl _) _
        have hclt := (Array.getElem?_eq_some_iff.1 H3.out.2.2.1).1
        exact ⟨H3.out.1.trans (hba.mono H3.out.1.size), hba.mono H3.out.1.size, (hba.block pb (by have := H3.out; omega)).trans H3.out.2.1, (hba.block cb hclt).trans H3.out.2.2.1, by rw [htb]; exact heap_alloc_new W3 _, H3.out.2.2.2.1, by omega, H3.out.2.2.2.2⟩)
      generalize W3.alloc (.cells #[.string ⟨#[109]⟩, .slice pa ns.length pc, .slice ba 1 bc] 41) = W4 at H4 ⊢
      rw [← htb]
      clear c0 c1 c2 p0 htb
      have k1f := frozen_of_row _ _ 1 _ _ H4.out.2.2.2.1
      have k1 := cell_of_row _ _ 1 _ _ _ H4.out.2.2.2.1
      simp only [List.getElem?_toArray, List.getElem?_cons_zero, List.getElem?_cons_succ] at k1
      go_upto_region 8 with fail
      have H5 := Lib.hid (show Below w.heap.size w (W4.setCell ⟨cb, 1, none⟩ (.int .i64 0)) ∧ Below w.heap.size W3 (W4.setCell ⟨cb, 1, none⟩ (.int .i64 0)) ∧ (W4.setCell ⟨cb, 1, none⟩ (.int .i64 0)).heap[pb]? = some (.cells #[.slice (some ⟨b, off, none⟩) 1 fc] 34 (0, 0)) ∧
          (W4.setCell ⟨cb, 1, none⟩ (.int .i64 0)).heap[cb]? = some (.cells #[.slice (some ⟨b, off, none⟩) 1 fc, .int .i64 0, .int .i64 0] 170 (0, 0)) ∧ (W4.setCell ⟨cb, 1, none⟩ (.int .i64 0)).heap[tb]? = some (.cells #[.string ⟨#[109]⟩, .slice pa ns.length pc, .slice ba 1 bc] 41 (0, 0)) ∧ w.heap.size ≤ cb ∧ cb < tb from by
        obtain ⟨c1, c2, c3, c4, c5, c6, c7, c8⟩ := H4.out
        have ht := turned_store W4 cb 1 (.int .i64 0)
        have hb3 := ht.below (B := w.heap.size) c1.size (fun k hk => by omega)
        refine ⟨c1.trans hb3, c2.trans hb3, (ht.block pb (Array.getElem?_eq_some_iff.1 c3).1 (by omega)).trans c3, ?_, (ht.block tb (Array.getElem?_eq_some_iff.1 c5).1 (by omega)).trans c5, c6, c7⟩
        rw [heap_setCell_same _ cb 1 _ _ _ c4]
        rfl)
      generalize W4.setCell ⟨cb, 1, none⟩ (.int .i64 0) = W5 at H5 ⊢
      clear k1f k1 H4
      have p0 := cell_of_row _ _ 0 _ _ _ H5.out.2.2.1
      have f0 := cell_of_row _ _ 0 _ _ _ H5.out.2.2.2.2.1
      have f1 := cell_of_row _ _ 1 _ _ _ H5.out.2.2.2.2.1
      have f2 := cell_of_row _ _ 2 _ _ _ H5.out.2.2.2.2.1
      simp only [List.getElem?_toArray, List.getElem?_cons_zero, List.getElem?_cons_succ] at p0 f0 f1 f2
      have HF := Lib.hid (show Calls Tryd.prog 19 #[.agg #[.slice (some ⟨b, off, none⟩) 1 fc], .string ⟨#[109]⟩] W5 fun e w' => e = .returned (.int .i64 0) ∧ Below W5.heap.size W5 w' from by
        have h1 := fnAt_any (D + 1) S (some ⟨b, off, none⟩) fc [retF ns x] ⟨#[109]⟩ W5 (HL.out.below (fnP_stays (D + 1)) H5.out.1) (by simp)
        rw [idxR_hit (p := sameN ⟨#[109]⟩) (xs := [retF ns x]) (j := 0) (x := retF ns x) rfl (by simp [sameN, retF]) rfl] at h1
        exact h1)
      go_wp2_with fail
      refine HF.out.mono ?_
      rintro e w6 ⟨rfl, hb6⟩
      have H6 := Lib.hid hb6
      have g1 := cell_later hb6 f1
      have g2 := cell_later hb6 f2
      clear hb6 p0 f0 f1 f2 HF
      go_wp2_with fail
      refine (openC_any w6).mono ?_
      rintro e w7 ⟨rfl, hb7, hE7, hlt7⟩
      have h1 := cell_later hb7 g1
      have h2 := cell_later hb7 g2
      clear g1 g2
      obtain ⟨M, hM⟩ : ∃ b, b = w6.heap.size := ⟨_, rfl⟩
      have H7 := Lib.hid (show Below W5.heap.size W5 w7 ∧ EnvAt w7 (M + 1) M 0 (fun _ => none) ∧ M + 1 < w7.heap.size ∧ W5.heap.size ≤ M from by rw [hM]; exact ⟨H6.out.trans (hb7.mono H6.out.size), hE7, hlt7, H6.out.size⟩)
      rw [← hM]
      clear hb7 hE7 hlt7 hM H6
      go_wp2_with fail
      clear h1
      have HW7 := Lib.hid (show Below w.heap.size w w7 ∧ Below w.heap.size W3 w7 ∧ w.heap.size ≤ M from
        ⟨H5.out.1.trans (H7.out.1.mono H5.out.1.size), H5.out.2.1.trans (H7.out.1.mono H5.out.1.size), by have := H7.out.2.2.2; have := H5.out.1.size; omega⟩)
      have hnl3 : ns.length ≤ 3 := HN.out.1
      go_loopg [41] ns.length (fun G i wr => ∃ (j : Nat), j + G = ns.length ∧ i = .int .i64 j ∧ Hid (VarsAt wr M j (gZ (ns.take j)) ∧ Turned (fun k => k = M) w7 wr))
      case atStart => exact ⟨0, by omega, rfl, Lib.hid ⟨H7.out.2.1.vars.same (fun s => rfl), Turned.refl _ _⟩⟩
      case round =>
        obtain ⟨j, hj, rfl, HR2⟩ := hrel
        have HBW := Lib.hid (show Below w.heap.size w wr from HW7.out.1.trans (HR2.out.2.below (B := w.heap.size) HW7.out.1.size (fun k hk => by have := HW7.out; omega)))
        have HEW := Lib.hid (show EnvAt wr (M + 1) M j (gZ (ns.take j)) from
          ⟨(World.cell?_of_block (HR2.out.2.block (M + 1) H7.out.2.2.1 (by omega))).trans H7.out.2.1.c0, (World.cell?_of_block (HR2.out.2.block (M + 1) H7.out.2.2.1 (by omega))).trans H7.out.2.1.c1, HR2.out.1⟩)
        have v0 := HEW.out.c0
        by_cases hlt : j < ns.length
        · obtain ⟨b1, o1, s, rfl, hs, hss, hc⟩ := str_place (HPB.out.1.below strP_stays HBW.out) hlt
          have hji : (j : Int) < (ns.length : Int) := by omega
          have hlk := HR2.out.1.look_ok hss
          rw [gZ_new (HN.out.2.2.1 j s hs)] at hlk
          simp only [Option.getD_none, Option.isSome_none] at hlk
          have HSU := Lib.hid (gZ_succ hs)
          obtain ⟨w2, hput, hV2, hg2⟩ := HR2.out.1.put (show j < maxLen by have := HN.out.1; unfold maxLen; omega) hss (show (Lit.int .i64 0).wf = true by decide)
          have HE := Lib.hid (show VarsAt w2 M (j + 1) (gZ (ns.take (j + 1))) ∧ Turned (fun k => k = M) w7 w2 from
            ⟨hV2.same (fun t => HSU.out t), HR2.out.2.trans ⟨hg2.os, hg2.tape, hg2.output, hg2.size, fun k hk hne => hg2.block k hk (fun e => hne (Option.some.inj e))⟩⟩)
          clear hV2 hg2 hss hs
          go_wp2
          go_roundg (gk - 1)
          case measure => omega
          case rel => exact ⟨j + 1, by omega, by go_num, HE⟩
        · obtain rfl : j = ns.length := by omega
          have g2 := (World.cell?_of_block (HR2.out.2.block tb (Nat.lt_of_lt_of_le (Array.getElem?_eq_some_iff.1 H5.out.2.2.2.2.1).1 H7.out.1.size) (by have := (Array.getElem?_eq_some_iff.1 H5.out.2.2.2.2.1).1; have := H7.out.2.2.2; omega))).trans h2
          have HEF := Lib.hid (show EnvAt wr (M + 1) M ns.length (gZ ns) from by
            have h1 := HEW.out
            rw [List.take_of_length_le (Nat.le_refl _)] at h1
            exact h1)
          have HQ := Lib.hid (blockC_any cb (M + 1) M ns.length ns HN.out.2.1 D S ba bc x wr (HPB.out.2.below (stmtP_stays (D + 1)) HBW.out) HN.out.2.2.2 HEF.out)
          have HCB := Lib.hid ((HR2.out.2.block cb (by have := (Array.getElem?_eq_some_iff.1 H5.out.2.2.2.1).1; have := H7.out.1.size; omega) (by have := (Array.getElem?_eq_some_iff.1 H5.out.2.2.2.1).1; have := H7.out.2.2.2; omega)).trans ((H7.out.1.block cb (Array.getElem?_eq_some_iff.1 H5.out.2.2.2.1).1).trans H5.out.2.2.2.1))
          clear v0
          go_wp2_with fail
          refine HQ.out.mono ?_
          rintro e w9 ⟨rfl, hb9⟩
          have HE := Lib.hid (show Below w.heap.size w w9 ∧ (∃ k, w9.heap[cb]? = some (.cells #[.slice (some ⟨b, off, none⟩) 1 fc, k, .int .i64 0] 170 (0, 0))) from ⟨HBW.out.trans (hb9.mono HBW.out.size), _, (hb9.block cb (Array.getElem?_eq_some_iff.1 HCB.out).1).trans HCB.out⟩)
          clear hb9 g2
          go_wp2
          go_roundg 0
          case measure => omega
          case rel => exact ⟨1, by omega, by go_num, Lib.hid ⟨HE.out.1, HE.out.2, fun h => by cases h⟩⟩
    · obtain rfl : j = 1 := by omega
      obtain ⟨kv, hkv⟩ := HR.out.2.1
      have k2 := cell_of_row _ _ 2 _ _ _ hkv
      simp only [List.getElem?_toArray, List.getElem?_cons_zero, List.getElem?_cons_succ] at k2
      clear hkv
      go_wp2
      go_ret
      exact ⟨rfl, HR.out.1⟩

end Go.Proofs.YtccfbnhlhjlmgaaDoor

/-
  A program of one function that gives an expression's value is run: tick, stmt, block, call.
-/
namespace Go.Proofs.YtccfbnhlhjlmgaaDoor
open Go.RowKit
set_option linter.unusedVariables false

/-- A run's cells: its program, its fuel, what was used. -/
def mCells (fa : Option Addr) (fc : Nat) (used : Int) : Array Value := #[.slice fa 1 fc, .int .i64 1, .int .i64 used, .slice none 0 0, .int .i64 0, .int .i64 0, .int .i64 0, .int .i64 0, .int .i64 0, .int .i64 0, .int .i64 0, .int .i64 0, .int .i64 0, .int .i64 0, .int .i64 0, .int .i64 0, .int .i64 0, .int .i64 0, .int .i64 0, .int .i64 0]
set_option maxRecDepth 100000 in
theorem tick_any (mb : Nat) (fa : Option Addr) (fc : Nat) (w : World) (hm : w.heap[mb]? = some (.cells (mCells fa fc 0) 95 (0, 0))) :
    Calls Tryd.prog 155 #[.pointer (some ⟨mb, 0, none⟩)] w fun e w' => e = .returned (.tuple #[]) ∧ w'.heap[mb]? = some (.cells (mCells fa fc 1) 95 (0, 0)) ∧ Turned (fun k => k = mb) w w' := by
  have m1 := cell_of_row _ _ 1 _ _ _ hm
  have m2 := cell_of_row _ _ 2 _ _ _ hm
  have z2 := frozen_of_row _ _ 2 _ _ hm
  simp only [mCells, List.getElem?_toArray, List.getElem?_cons_zero, List.getElem?_cons_succ] at m1 m2
  have HS := Lib.hid (fun nq => show ((w.drewN nq).setCell ⟨mb, 2, none⟩ (.int .i64 1)).heap[mb]? = some (.cells (mCells fa fc 1) 95 (0, 0)) ∧ Turned (fun k => k = mb) w ((w.drewN nq).setCell ⟨mb, 2, none⟩ (.int .i64 1)) from
    ⟨by rw [heap_setCell_same (w.drewN nq) mb 2 _ _ _ hm]; rfl, (turned_of_below (below_drewN (Below.refl w.heap.size w) nq) (fun k h1 h2 => by omega)).trans (turned_store (w.drewN nq) mb 2 (.int .i64 1))⟩)
  clear hm
  go_enter Tryd.func155, Tryd.ntmps155
  go_upto_region 0 with fail
  go_quiet (fail)
  go_wp2
  go_end0
  exact ⟨rfl, (HS.out _).1, (HS.out _).2⟩

/-- What becomes of the run where a statement gives this value. -/
def RunP (V : Option Int) (w : World) (e : Ending) (w' : World) : Prop :=
  (V = none ∧ e = divPanic) ∨ (∃ v q, V = some v ∧ e = .returned (.pointer (some ⟨q, 0, none⟩)) ∧ w'.heap[q]? = some (.cells #[.int .i64 v] 155 (0, 0)))
section
variable {ns : List ByteArray} {G : ByteArray → Option Int} {ve M n D m : Nat} {S : Nat → Prop} {x : ExprD}
set_option maxRecDepth 100000 in
set_option maxHeartbeats 2000000 in
theorem stmtR_any (mp : Value) (hsz : ∀ s ∈ ns, s.size ≤ maxLen) (hG : ∀ s v, G s = some v → 0 ≤ v ∧ v ≤ 255) (cs : List Value) (w : World) (h : StmtP (D + 1) S w cs (retS x)) (hs : sizeD nameD m x ≠ none) (hN : anyE (badP ns) 12 x = false) (hE : EnvAt w ve M n G) :
    Calls Tryd.prog 156 #[mp, .agg cs.toArray, .pointer (some ⟨ve, 0, none⟩)] w fun e w' => Below w.heap.size w w' ∧ RunP (evalV G 12 x) w e w' := by
  obtain ⟨aa, ac, ba, bc, ea, ec, rfl, hbd, hA, -, -⟩ := h
  show Calls _ _ #[mp, .agg #[.int .i64 7, .string ⟨#[]⟩, .slice aa 1 ac, .slice ba 0 bc, .slice ea 0 ec], .pointer (some ⟨ve, 0, none⟩)] w _
  have hba : Below w.heap.size w (w.alloc (.cells #[.int .i64 7, .string ⟨#[]⟩, .slice aa 1 ac, .slice ba 0 bc, .slice ea 0 ec] 46)) := (Below.refl _ _).alloc (Nat.le_refl _) _
  have hrow := heap_alloc_new w (.cells #[.int .i64 7, .string ⟨#[]⟩, .slice aa 1 ac, .slice ba 0 bc, .slice ea 0 ec] 46)
  have e0 := cell_of_row _ _ 0 _ _ _ hrow
  have e2 := cell_of_row _ _ 2 _ _ _ hrow
  simp only [List.getElem?_toArray, List.getElem?_cons_zero, List.getElem?_cons_succ] at e0 e2
  obtain ⟨b1, off1, k, ka, kc, rfl, hk, hkR, d0, d1, d2, d3⟩ := expr_place (show ListK 4 (exprK 12) S w aa [x] from hA) (show 0 < [x].length by simp)
  obtain rfl : k = x := by simpa using hk.symm
  simp only [Nat.zero_mul, Nat.add_zero] at d0 d1 d2 d3
  have d0' := cell_later hba d0
  have d1' := cell_later hba d1
  have d2' := cell_later hba d2
  have d3' := cell_later hba d3
  have HV := Lib.hid (evalN_any ns G mp ve M n hsz hG 12 m _ k _ (exprAt_lasts 12 _ _ _ _ hba (exprP_at hkR.1)) hs hN (hE.later hba))
  have HB := Lib.hid (And.intro hba hrow)
  clear hA hbd hk hkR hba hrow hN hE hsz hG hs d0 d1 d2 d3
  go_enter Tryd.func156, Tryd.ntmps156
  go_wp2_with fail
  refine HV.out.mono ?_
  rintro e w2 ⟨hev, hb2⟩
  have HX := Lib.hid (HB.out.1.trans (hb2.mono HB.out.1.size))
  have k0 := cell_later hb2 e0
  obtain ⟨r, hr⟩ : ∃ r, r = evalV G 12 k := ⟨_, rfl⟩
  rw [← hr] at hev
  have HR := Lib.hid hr
  clear hr hb2 e0 e2 d0' d1' d2' d3'
  cases r with
  | none =>
    obtain rfl : e = divPanic := hev
    exact ⟨rfl, HX.out, .inl ⟨HR.out.symm, rfl⟩⟩
  | some v =>
    obtain rfl : e = .returned (.int .i64 v) := hev
    go_wp2
    go_ret
    exact ⟨HX.out.alloc HX.out.size _, .inr ⟨v, _, HR.out.symm, rfl, heap_alloc_new _ _⟩⟩
set_option maxRecDepth 100000 in
set_option maxHeartbeats 4000000 in
theorem blockR_any (mb : Nat) (fa : Option Addr) (fc : Nat) (hsz : ∀ s ∈ ns, s.size ≤ maxLen) (hG : ∀ s v, G s = some v → 0 ≤ v ∧ v ≤ 255) (a : Option Addr) (c : Nat) (w : World) (h : ListK 5 (StmtP (D + 1)) (fun k => k ≠ mb) w a [retS x]) (hs : sizeD nameD m x ≠ none) (hN : anyE (badP ns) 12 x = false) (hE : EnvAt w ve M n G) (hve : ve ≠ mb ∧ M ≠ mb)
    (hm : w.heap[mb]? = some (.cells (mCells fa fc 0) 95 (0, 0))) :
    Calls Tryd.prog 144 #[.pointer (some ⟨mb, 0, none⟩), .slice a 1 c, .pointer (some ⟨ve, 0, none⟩)] w fun e w' => (w'.heap[mb]? = some (.cells (mCells fa fc 1) 95 (0, 0)) ∧ Turned (fun k => k = mb) w w') ∧ RunP (evalV G 12 x) w e w' := by
  obtain ⟨b, off, x', aa, ac, ba, bc, ea, ec, rfl, hx, hR, c0, c1, c2, c3, c4⟩ := stmt_place h (show 0 < [retS x].length by simp)
  obtain rfl : x' = retS x := by simpa using hx.symm
  simp only [Nat.zero_mul, Nat.add_zero] at c0 c1 c2 c3 c4
  change w.cell? _ = some (.int .i64 7) at c0
  change w.cell? _ = some (.string ⟨#[]⟩) at c1
  change w.cell? _ = some (.slice aa 1 ac) at c2
  change w.cell? _ = some (.slice ba 0 bc) at c3
  change w.cell? _ = some (.slice ea 0 ec) at c4
  have hba : Below w.heap.size w (w.alloc (.cells #[.int .i64 7, .string ⟨#[]⟩, .slice aa 1 ac, .slice ba 0 bc, .slice ea 0 ec] 46)) := (Below.refl _ _).alloc (Nat.le_refl _) _
  have hrow := heap_alloc_new w (.cells #[.int .i64 7, .string ⟨#[]⟩, .slice aa 1 ac, .slice ba 0 bc, .slice ea 0 ec] 46)
  have hmlt := (Array.getElem?_eq_some_iff.1 hm).1
  have HT := Lib.hid (tick_any mb fa fc _ ((hba.block _ hmlt).trans hm))
  have HB := Lib.hid (And.intro hba (And.intro hrow hmlt))
  have HX := Lib.hid (show StmtP (D + 1) (fun k => k ≠ mb) w [.int .i64 7, .string ⟨#[]⟩, .slice aa 1 ac, .slice ba 0 bc, .slice ea 0 ec] (retS x) from hR)
  have HE := Lib.hid (And.intro (hE.later hba) hve)
  have HC := Lib.hid (fun (W : World) (hx : StmtP (D + 1) (fun k => k ≠ mb) W [.int .i64 7, .string ⟨#[]⟩, .slice aa 1 ac, .slice ba 0 bc, .slice ea 0 ec] (retS x)) (hE : EnvAt W ve M n G) => stmtR_any (.pointer (some ⟨mb, 0, none⟩)) hsz hG _ W hx hs hN hE)
  clear h hx hR hba hrow hmlt hm hE hve hsz hG hs hN
  go_enter Tryd.func144, Tryd.ntmps144
  go_wp2_with fail
  refine wp_loop_rounds 2 ?_
  rw [rounds_succ]
  go_wp2_with fail
  refine HT.out.mono ?_
  rintro e w2 ⟨rfl, hm2, ht2⟩
  obtain ⟨sb, hsb⟩ : ∃ b, b = w.heap.size := ⟨_, rfl⟩
  have hrow2 := (ht2.block w.heap.size (Array.getElem?_eq_some_iff.1 HB.out.2.1).1 (by have := HB.out.2.2; omega)).trans HB.out.2.1
  have H2 := Lib.hid (show w2.heap[mb]? = some (.cells (mCells fa fc 1) 95 (0, 0)) ∧ Turned (fun k => k = mb) w w2 ∧ StmtP (D + 1) (fun k => k ≠ mb) w2 [.int .i64 7, .string ⟨#[]⟩, .slice aa 1 ac, .slice ba 0 bc, .slice ea 0 ec] (retS x) ∧ EnvAt w2 ve M n G from
    ⟨hm2, (turned_of_below HB.out.1 (fun k h1 h2 => by omega)).trans ht2, (stmtP_stays (D + 1)).turned ht2 (fun k _ h => h) ((stmtP_stays (D + 1)).below HB.out.1 HX.out), HE.out.1.turned ht2 HE.out.2.1 HE.out.2.2⟩)
  rw [← hsb] at hrow2 ⊢
  have e0 := cell_of_row _ _ 0 _ _ _ hrow2
  have e1 := cell_of_row _ _ 1 _ _ _ hrow2
  have e2 := cell_of_row _ _ 2 _ _ _ hrow2
  have e3 := cell_of_row _ _ 3 _ _ _ hrow2
  have e4 := cell_of_row _ _ 4 _ _ _ hrow2
  simp only [List.getElem?_toArray, List.getElem?_cons_zero, List.getElem?_cons_succ] at e0 e1 e2 e3 e4
  have HS := Lib.hid (HC.out w2 H2.out.2.2.1 H2.out.2.2.2)
  clear hm2 ht2 hrow2 HT HX HE HC hsb c0 c1 c2 c3 c4
  go_wp2_with fail
  refine HS.out.mono ?_
  rintro e w3 ⟨hb3, hr3⟩
  have H3 := Lib.hid (show w3.heap[mb]? = some (.cells (mCells fa fc 1) 95 (0, 0)) ∧ Turned (fun k => k = mb) w w3 from
    ⟨(hb3.block _ (Array.getElem?_eq_some_iff.1 H2.out.1).1).trans H2.out.1, H2.out.2.1.trans (turned_of_below hb3 (fun k h1 h2 => by omega))⟩)
  clear hb3 e0 e1 e2 e3 e4
  rcases hr3 with ⟨hv, rfl⟩ | ⟨v, q, hv, rfl, hq⟩
  · exact ⟨rfl, H3.out, .inl ⟨hv, rfl⟩⟩
  · have HQ := Lib.hid (And.intro hv hq)
    clear hv hq
    go_wp2
    go_ret
    exact ⟨H3.out, .inr ⟨v, q, HQ.out.1, rfl, HQ.out.2⟩⟩

theorem valV_none {s : ByteArray} : ∀ {ns : List ByteArray} {vs : List Int}, s ∉ ns → valV ns vs s = none
  | [], _, _ => by simp [valV]
  | _ :: _, [], _ => by simp [valV]
  | n :: ns, v :: vs, h => by
    rw [valV, if_neg (fun e => h (by simp [e]))]
    exact valV_none (fun e => h (List.mem_cons_of_mem _ e))
set_option maxRecDepth 100000 in
set_option maxHeartbeats 4000000 in
theorem callR_any (mb : Nat) (fa : Option Addr) (fc : Nat) (vs : List Int) (va : Option Addr) (vc : Nat) (w : World) (h : ListK 3 (FnP (D + 1)) (fun k => k ≠ mb) w fa [retF ns x]) (hsz : ∀ s ∈ ns, s.size ≤ maxLen) (hns : ns.length ≤ 3) (hd : ∀ j s, ns[j]? = some s → s ∉ ns.take j) (hvb : bytesB vs = true) (hvs : IntsRd w va ns.length vs)
    (hs : sizeD nameD m x ≠ none) (hN : anyE (badP ns) 12 x = false) (hm : w.heap[mb]? = some (.cells (mCells fa fc 0) 95 (0, 0))) :
    Calls Tryd.prog 115 #[.pointer (some ⟨mb, 0, none⟩), .int .i64 0, .slice va ns.length vc] w fun e w' => (w'.heap[mb]? = some (.cells (mCells fa fc 1) 95 (0, 0)) ∧ Turned (fun k => k = mb) w w') ∧ e = evE (evalV (valV ns vs) 12 x) := by
  have hmm := @run_makeMap Tryd.prog
  obtain ⟨b, off, f, pa, pc, ba, bc, rfl, hx, hR, -, c1, c2⟩ := fn_place h (show 0 < [retF ns x].length by simp)
  obtain rfl : f = retF ns x := by simpa using hx.symm
  obtain ⟨pa', pc', ba', bc', he, hbd, hPd, hBd⟩ := hR
  cases he
  simp only [Nat.zero_mul, Nat.add_zero] at c1 c2
  change w.cell? _ = some (.slice pa ns.length pc) at c1
  change w.cell? _ = some (.slice ba 1 bc) at c2
  change ListK 1 strP _ w pa ns at hPd
  change ListK 5 (StmtP (D + 1)) _ w ba [retS x] at hBd
  have hmlt := (Array.getElem?_eq_some_iff.1 hm).1
  have HV5 := Lib.hid (show Below w.heap.size w ((w.alloc (.map #[] 0)).alloc (.cells #[.map (some w.heap.size), .pointer none] 87)) ∧ ((w.alloc (.map #[] 0)).alloc (.cells #[.map (some w.heap.size), .pointer none] 87)).heap[w.heap.size + 1]? = some (.cells #[.map (some w.heap.size), .pointer none] 87 (0, 0)) ∧ ((w.alloc (.map #[] 0)).alloc (.cells #[.map (some w.heap.size), .pointer none] 87)).heap[w.heap.size]? = some (.map #[] 0) ∧ mb < w.heap.size from
    ⟨((Below.refl _ _).alloc (Nat.le_refl _) _).alloc (by simp) _, heap_alloc2_new w _ _, heap_alloc2_old w _ _, hmlt⟩)
  have HM := Lib.hid (And.intro hm (And.intro c1 c2))
  have HL := Lib.hid (And.intro hPd (And.intro hBd hvs))
  have HN := Lib.hid (And.intro hsz (And.intro hd (And.intro hvb hvs.length)))
  have HS := Lib.hid (And.intro hs hN)
  have HNL := Lib.hid hns
  clear h hx hbd hPd hBd hmlt hm c1 c2 hvs hsz hd hvb hs hN
  go_enter Tryd.func115, Tryd.ntmps115
  go_upto_region 2 with fail
  obtain ⟨Mq, hM⟩ : ∃ b, b = w.heap.size := ⟨_, rfl⟩
  generalize (w.alloc (.map #[] 0)).alloc (.cells #[.map (some w.heap.size), .pointer none] 87) = W5 at HV5 ⊢
  have H5 := Lib.hid (show Below w.heap.size w W5 ∧ W5.heap[Mq + 1]? = some (.cells #[.map (some Mq), .pointer none] 87 (0, 0)) ∧ W5.heap[Mq]? = some (.map #[] 0) ∧ mb < Mq ∧ Mq + 1 < W5.heap.size ∧ w.heap.size = Mq from by rw [hM]; exact ⟨HV5.out.1, HV5.out.2.1, HV5.out.2.2.1, HV5.out.2.2.2, (Array.getElem?_eq_some_iff.1 HV5.out.2.1).1, rfl⟩)
  rw [← hM]
  clear HV5 hM
  have m0 := cell_of_row _ _ 0 _ _ _ ((H5.out.1.block mb (by have := H5.out; omega)).trans HM.out.1)
  simp only [mCells, List.getElem?_toArray, List.getElem?_cons_zero] at m0
  have c1 := cell_later H5.out.1 HM.out.2.1
  go_wp2_with fail
  clear m0 c1
  go_loopg [24] ns.length (fun F i wr => ∃ j : Nat, j + F = ns.length ∧ i = .int .i64 j ∧ Hid (VarsAt wr Mq j (valV (ns.take j) (vs.take j)) ∧ Turned (fun k => k = Mq) W5 wr))
  case atStart => exact ⟨0, by omega, rfl, Lib.hid ⟨(VarsAt.of H5.out.2.2.1).same (fun s => by cases ns <;> rfl), Turned.refl _ _⟩⟩
  case round =>
    obtain ⟨j, hj, rfl, HR2⟩ := hrel
    have HBW := Lib.hid (show Below w.heap.size w wr from H5.out.1.trans (HR2.out.2.below (B := w.heap.size) H5.out.1.size (fun k hk => by have := H5.out; omega)))
    have v0 := cell_of_row _ _ 0 _ _ _ ((HR2.out.2.block (Mq + 1) H5.out.2.2.2.2.1 (by omega)).trans H5.out.2.1)
    simp only [List.getElem?_toArray, List.getElem?_cons_zero] at v0
    by_cases hlt : j < ns.length
    · obtain ⟨b1, o1, s, rfl, hs, hss, hc⟩ := str_place (HL.out.1.below strP_stays HBW.out) hlt
      obtain ⟨b2, o2, u, rfl, hu, hcu⟩ := (HL.out.2.2.later HBW.out).place hlt
      have hji : (j : Int) < (ns.length : Int) := by omega
      have HSU := Lib.hid (fun t => valV_succ t hs hu)
      have HG0 := Lib.hid (show valV (ns.take j) (vs.take j) s = none from valV_none (HN.out.2.1 j s hs))
      have hur : -9223372036854775808 ≤ u ∧ u ≤ 9223372036854775807 := by
        have h1 := List.all_eq_true.1 HN.out.2.2.1 u (List.mem_of_getElem? hu)
        simp only [inE, Bool.and_eq_true, decide_eq_true_eq] at h1
        omega
      clear hs hu
      go_upto_region 5 with fail
      obtain ⟨w2, hput, hV2, hg2⟩ := (HR2.out.1.stay (w' := wr.drew) rfl).put (show j < maxLen by have := HNL.out; unfold maxLen; omega) hss (WalkArith.wf_i64 hur)
      have HE := Lib.hid (show VarsAt w2 Mq (j + 1) (valV (ns.take (j + 1)) (vs.take (j + 1))) ∧ Turned (fun k => k = Mq) W5 w2 from
        ⟨hV2.same (fun t => by
          rw [HSU.out t]
          by_cases hts : t = s
          · subst hts
            rw [if_pos rfl, HG0.out, if_pos rfl]
          · rw [if_neg hts]
            cases valV (ns.take j) (vs.take j) t with
            | some v' => rfl
            | none =>
              show _ = if t = s then _ else _
              rw [if_neg hts]), HR2.out.2.trans ⟨hg2.os, hg2.tape, hg2.output, hg2.size, fun k hk hne => hg2.block k hk (fun e => hne (Option.some.inj e))⟩⟩)
      clear hV2 hg2 hss hur
      go_still_tail 9, (by kernel_rfl)
      change wpList _ _ _ _ _ wr.drew
      go_wp2
      go_roundg (gk - 1)
      case measure => omega
      case rel => exact ⟨j + 1, by omega, by go_num, HE⟩
    · obtain rfl : j = ns.length := by omega
      have HENV := Lib.hid (show EnvAt wr (Mq + 1) Mq ns.length (valV ns vs) from ⟨v0, cell_of_row _ _ 1 _ _ _ ((HR2.out.2.block (Mq + 1) H5.out.2.2.2.2.1 (by omega)).trans H5.out.2.1), by
        have h1 := HR2.out.1
        rw [List.take_of_length_le (Nat.le_refl _), List.take_of_length_le (by rw [HN.out.2.2.2]; exact Nat.le_refl _)] at h1
        exact h1⟩)
      have hmr : wr.heap[mb]? = some (.cells (mCells (some ⟨b, off, none⟩) fc 0) 95 (0, 0)) := (HBW.out.block mb (by have := H5.out; omega)).trans HM.out.1
      have m0 := cell_of_row _ _ 0 _ _ _ hmr
      simp only [mCells, List.getElem?_toArray, List.getElem?_cons_zero] at m0
      have c2 := cell_later HBW.out HM.out.2.2
      have HC := Lib.hid (blockR_any mb (some ⟨b, off, none⟩) fc HN.out.1 (fun s v h => valV_range HN.out.2.2.1 h) ba bc wr (HL.out.2.1.below (stmtP_stays (D + 1)) HBW.out) HS.out.1 HS.out.2 HENV.out (by have := H5.out; omega) hmr)
      clear hmr
      go_wp2_with fail
      refine HC.out.mono ?_
      rintro e w3 ⟨⟨hm3, ht3⟩, hr3⟩
      have H3 := Lib.hid (show w3.heap[mb]? = some (.cells (mCells (some ⟨b, off, none⟩) fc 1) 95 (0, 0)) ∧ Turned (fun k => k = mb) w w3 from
        ⟨hm3, (turned_of_below HBW.out (fun k h1 h2 => by omega)).trans ht3⟩)
      clear hm3 ht3
      rcases hr3 with ⟨hv, rfl⟩ | ⟨v, q, hv, rfl, hq⟩
      · exact ⟨rfl, H3.out, by rw [hv]; rfl⟩
      · have q0 := cell_of_row _ _ 0 _ _ _ hq
        simp only [List.getElem?_toArray, List.getElem?_cons_zero] at q0
        have HQ := Lib.hid hv
        clear hv hq
        go_wp2
        go_ret
        exact ⟨H3.out, by rw [HQ.out]; rfl⟩
end

end Go.Proofs.YtccfbnhlhjlmgaaDoor
