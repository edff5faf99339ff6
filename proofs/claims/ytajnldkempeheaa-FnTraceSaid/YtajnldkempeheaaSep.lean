/-
  Rows of structs that a call has made, their memory told by sets of blocks, in no order; what marks leave in them.
-/
import Derived.Test.YtajnldkempeheaaUnitData
import Derived.StillTailTactics
import Derived.Test.YtajnldkempeheaaCore
import Derived.Test.YtajnldkempeheaaBase
import Derived.Deep.LoopGhost

namespace Go.Proofs.Ytajnldkempeheaa
open Go.RowKit
set_option linter.unusedVariables false

/-- How an element reads whose memory is these blocks. -/
abbrev SetRel (α : Type) : Type := (Nat → Prop) → World → List Value → α → Prop
structure Sets {α : Type} (s : Nat) (R : SetRel α) : Prop where
  mono : ∀ {S S' : Nat → Prop} {w : World} {c : List Value} {x : α}, (∀ k, S k → S' k) → R S w c x → R S' w c x
  turned : ∀ {S T : Nat → Prop} {w w' : World} {c : List Value} {x : α}, Turned T w w' → (∀ k, k < w.heap.size → S k → ¬ T k) → R S w c x → R S w' c x
  here : ∀ {S : Nat → Prop} {w : World} {c : List Value} {x : α}, R S w c x → R (fun k => S k ∧ k < w.heap.size) w c x
  len : ∀ {S : Nat → Prop} {w : World} {c : List Value} {x : α}, R S w c x → c.length = s
theorem Sets.below {α : Type} {s : Nat} {R : SetRel α} (hR : Sets s R) {S : Nat → Prop} {w w' : World} {c : List Value} {x : α} (hb : Below w.heap.size w w') (h : R S w c x) : R S w' c x :=
  hR.turned (T := fun k => w.heap.size ≤ k) (turned_of_below hb (fun k h1 _ => h1)) (fun k h1 _ h2 => by omega) h

/-- A slice of elements of s cells: its row's cells, and each element's blocks, all apart. -/
structure SepRows {α : Type} (s : Nat) (e : TypeId) (R : SetRel α) (S : Nat → Prop) (w : World) (a : Option Addr) (n c : Nat) (xs : List α) (cells : List (List Value)) (G : Nat → Nat → Prop) : Prop where
  own : w.ownsRow 0 e s (.slice a n c) n cells.flatten
  count : cells.length = n
  cl : ∀ d ∈ cells, d.length = s
  length : xs.length = n
  row : ∀ k, (Value.slice a n c).ownBlock = some k → S k
  sub : ∀ i k, G i k → S k ∧ ¬ (Value.slice a n c).ownBlock = some k
  apart : ∀ i j k, i ≠ j → G i k → ¬ G j k
  el : ∀ (i : Nat) d x, cells[i]? = some d → xs[i]? = some x → R (G i) w d x
def SepK {α : Type} (s : Nat) (e : TypeId) (R : SetRel α) (S : Nat → Prop) (w : World) (a : Option Addr) (n c : Nat) (xs : List α) : Prop := ∃ cells G, SepRows s e R S w a n c xs cells G
section
variable {α : Type} {s : Nat} {e : TypeId} {R : SetRel α} {S S' T : Nat → Prop} {w w' : World} {a : Option Addr} {n c : Nat} {xs : List α}
theorem SepK.nil : SepK s e R S w none 0 0 [] := ⟨[], fun _ _ => False, World.ownsRow_nil _ _ _ _, rfl, by simp, rfl, by simp [Value.ownBlock], fun _ _ h => h.elim, fun _ _ _ _ h => h.elim, by simp⟩
theorem SepK.mono (h : SepK s e R S w a n c xs) (hS : ∀ k, S k → S' k) : SepK s e R S' w a n c xs := by
  obtain ⟨cells, G, h⟩ := h
  exact ⟨cells, G, h.own, h.count, h.cl, h.length, fun k hk => hS k (h.row k hk), fun i k hk => ⟨hS k (h.sub i k hk).1, (h.sub i k hk).2⟩, h.apart, h.el⟩
theorem SepRows.turned (hR : Sets s R) {cells : List (List Value)} {G : Nat → Nat → Prop} (h : SepRows s e R S w a n c xs cells G) (ht : Turned T w w') (hT : ∀ k, k < w.heap.size → S k → ¬ T k) : SepRows s e R S w' a n c xs cells G :=
  ⟨own_turned h.own ht (fun k hk => hT k (h.own.lt k hk).2 (h.row k hk)), h.count, h.cl, h.length, h.row, h.sub, h.apart, fun i d x hd hx => hR.turned ht (fun k h1 h2 => hT k h1 (h.sub i k h2).1) (h.el i d x hd hx)⟩
theorem SepK.turned (hR : Sets s R) (h : SepK s e R S w a n c xs) (ht : Turned T w w') (hT : ∀ k, k < w.heap.size → S k → ¬ T k) : SepK s e R S w' a n c xs := by
  obtain ⟨cells, G, h⟩ := h
  exact ⟨cells, G, h.turned hR ht hT⟩
theorem SepK.below (hR : Sets s R) (h : SepK s e R S w a n c xs) (hb : Below w.heap.size w w') : SepK s e R S w' a n c xs :=
  h.turned hR (T := fun k => w.heap.size ≤ k) (turned_of_below hb (fun k h1 _ => h1)) (fun k h1 _ h2 => by omega)
theorem SepK.here (hR : Sets s R) (h : SepK s e R S w a n c xs) : SepK s e R (fun k => S k ∧ k < w.heap.size) w a n c xs := by
  obtain ⟨cells, G, h⟩ := h
  exact ⟨cells, fun i k => G i k ∧ k < w.heap.size, h.own, h.count, h.cl, h.length, fun k hk => ⟨h.row k hk, (h.own.lt k hk).2⟩, fun i k hk => ⟨⟨(h.sub i k hk.1).1, hk.2⟩, (h.sub i k hk.1).2⟩, fun i j k hn hi hj => h.apart i j k hn hi.1 hj.1, fun i d x hd hx => hR.here (h.el i d x hd hx)⟩
theorem SepK.rd {R' : World → List Value → α → Prop} (h : SepK s e R S w a n c xs) (hR : ∀ S w c x, R S w c x → R' w c x) : SliceRd s R' w a n xs := by
  obtain ⟨cells, G, h⟩ := h
  exact ⟨h.length, cells, rowAt_of_own h.own, h.count, h.cl, fun i d x hd hx => hR _ _ _ _ (h.el i d x hd hx)⟩
theorem SepK.max (h : SepK s e R S w a n c xs) : n ≤ maxLen := by
  obtain ⟨cells, G, h⟩ := h
  have := own_cap h.own
  omega
theorem SepK.none (h : SepK s e R S w a n c xs) : a = .none → c = 0 := by
  rintro rfl
  obtain ⟨cells, G, h⟩ := h
  exact own_nil h.own
theorem SepK.case (h : SepK s e R S w a n c xs) : (a = .none ∧ n = 0 ∧ c = 0) ∨ ∃ g, a = some ⟨g, 0, .none⟩ := by
  obtain ⟨cells, G, h⟩ := h
  rcases h.own.2 with ⟨hv, h0⟩ | ⟨g, cap', cur, hv, hg, _⟩
  · simp only [Value.slice.injEq] at hv
    exact .inl hv
  · simp only [Value.slice.injEq] at hv
    exact .inr ⟨g, hv.1⟩
/-- One element: its cells, its blocks; and what comes of the list when these alone are written. -/
theorem SepK.at {g : Nat} (hR : Sets s R) (h : SepK s e R S w (some ⟨g, 0, .none⟩) n c xs) {j : Nat} (hj : j < n) :
    ∃ (x : α) (pre d post : List Value) (F : Nat → Prop), xs[j]? = some x ∧ d.length = s ∧ RowMid w 0 e s g n c (j * s) pre d post ∧ R F w d x ∧ (∀ k, F k → S k ∧ k ≠ g) ∧ S g ∧
      ∀ (w' : World) (d' : List Value) (x' : α), Turned (fun k => k = g ∨ F k) w w' → RowMid w' 0 e s g n c (j * s) pre d' post → d'.length = s → R F w' d' x' → SepK s e R S w' (some ⟨g, 0, .none⟩) n c (xs.set j x') := by
  obtain ⟨cells, G, h⟩ := h
  have hc := h.count
  have hx := h.length
  have hcd : cells[j]? = some (cells[j]'(by omega)) := List.getElem?_eq_getElem _
  have hxd : xs[j]? = some (xs[j]'(by omega)) := List.getElem?_eq_getElem _
  have hsplit : ∀ d', cells.set j d' = cells.take j ++ d' :: cells.drop (j + 1) := fun d' => List.set_eq_take_append_cons_drop .. |>.trans (by rw [if_pos (by omega)])
  have hself : cells = cells.take j ++ cells[j]'(by omega) :: cells.drop (j + 1) := by rw [← hsplit]; simp
  have hpl : (cells.take j).flatten.length = j * s := by
    rw [flatten_len (s := s) (fun d hd => h.cl d (List.mem_of_mem_take hd)), List.length_take]
    congr 1; omega
  have hnr : ∀ k, G j k → S k ∧ k ≠ g := fun k hk => ⟨(h.sub j k hk).1, fun e => (h.sub j k hk).2 (by rw [e]; rfl)⟩
  refine ⟨_, (cells.take j).flatten, _, (cells.drop (j + 1)).flatten, G j, hxd, h.cl _ (List.getElem_mem _), ⟨?_, hpl⟩, h.el j _ _ hcd hxd, hnr, h.row g rfl, fun w' d' x' ht hm hd' hr => ?_⟩
  · have hf : cells.flatten = (cells.take j).flatten ++ cells[j]'(by omega) ++ (cells.drop (j + 1)).flatten := by
      have h9 := congrArg List.flatten hself
      rw [List.flatten_append, List.flatten_cons, ← List.append_assoc] at h9
      exact h9
    rw [← hf]; exact h.own
  · refine ⟨cells.set j d', G, ?_, by simp [hc], ?_, by simp [hx], h.row, h.sub, h.apart, fun i d x hd hx2 => ?_⟩
    · rw [hsplit, List.flatten_append, List.flatten_cons, ← List.append_assoc]
      exact hm.row
    · intro d hd
      rcases List.mem_or_eq_of_mem_set hd with hd | rfl
      · exact h.cl d hd
      · exact hd'
    · by_cases hij : i = j
      · subst hij
        rw [List.getElem?_set_self (by omega)] at hd hx2
        cases hd; cases hx2
        exact hr
      · rw [List.getElem?_set_ne (by omega)] at hd hx2
        exact hR.turned ht (fun k h1 h2 h3 => by
          rcases h3 with rfl | h3
          · exact (h.sub i k h2).2 rfl
          · exact h.apart i j k hij h2 h3) (h.el i d x hd hx2)
/-- One more was put at the end. -/
theorem SepRows.push (hR : Sets s R) {W w9 : World} {a' : Option Addr} {c' : Nat} {cells : List (List Value)} {G : Nat → Nat → Prop} {d : List Value} {x : α} {F : Nat → Prop} (h : SepRows s e R S W a n c xs cells G) (hx : R F W d x)
    (hown : w9.ownsRow 0 e s (.slice a' (n + 1) c') (n + 1) (cells.flatten ++ d)) (hg : W.grownBy w9 (Value.slice a n c).ownBlock)
    (hl : (Value.slice a' (n + 1) c').ownBlock = (Value.slice a n c).ownBlock ∨ (Value.slice a' (n + 1) c').ownBlock = some W.heap.size)
    (hF : ∀ k, F k → S' k ∧ k < W.heap.size ∧ ¬ S k) (hS : ∀ k, S k → S' k ∧ k < W.heap.size) (hnew : S' W.heap.size) : SepK s e R S' w9 a' (n + 1) c' (xs ++ [x]) := by
  have ht := turned_of_grown hg (S := fun k => (Value.slice a n c).ownBlock = some k) (fun k hk => hk)
  have hc := h.count
  have hlen := h.length
  have hrow : ∀ k, (Value.slice a' (n + 1) c').ownBlock = some k → (S k ∧ (Value.slice a n c).ownBlock = some k) ∨ k = W.heap.size := fun k hk => by
    rcases hl with hl | hl
    · rw [hl] at hk; exact .inl ⟨h.row k hk, hk⟩
    · rw [hl] at hk; exact .inr (Option.some.inj hk).symm
  refine ⟨cells ++ [d], fun i k => (i < n ∧ G i k) ∨ (i = n ∧ F k), by simpa using hown, by simp [hc], fun q hq => ?_, by simp [hlen], fun k hk => ?_, fun i k hk => ?_, fun i j k hij hi hj => ?_, fun i q y hq hy => ?_⟩
  · rcases List.mem_append.1 hq with hq | hq
    · exact h.cl q hq
    · rw [List.mem_singleton.1 hq]; exact hR.len hx
  · rcases hrow k hk with hk | rfl
    · exact (hS k hk.1).1
    · exact hnew
  · rcases hk with ⟨_, hk⟩ | ⟨_, hk⟩
    · have h1 := h.sub i k hk
      refine ⟨(hS k h1.1).1, fun e => ?_⟩
      rcases hrow k e with h2 | rfl
      · exact h1.2 h2.2
      · have := (hS _ h1.1).2; omega
    · have h1 := hF k hk
      refine ⟨h1.1, fun e => ?_⟩
      rcases hrow k e with h2 | rfl
      · exact h1.2.2 h2.1
      · omega
  · rcases hi with ⟨i1, hi⟩ | ⟨i1, hi⟩ <;> rcases hj with ⟨j1, hj⟩ | ⟨j1, hj⟩
    · exact h.apart i j k hij hi hj
    · exact (hF k hj).2.2 (h.sub i k hi).1
    · exact (hF k hi).2.2 (h.sub j k hj).1
    · omega
  · by_cases hi : i < n
    · rw [List.getElem?_append_left (by omega)] at hq hy
      refine hR.mono (fun k hk => .inl ⟨hi, hk⟩) (hR.turned ht (fun k _ h1 h2 => (h.sub i k h1).2 h2) (h.el i q y hq hy))
    · rw [List.getElem?_append_right (by omega)] at hq hy
      have hi0 : i = n := by
        have := (List.getElem?_eq_some_iff.1 hq).1
        simp at this; omega
      subst hi0
      rw [hc, Nat.sub_self] at hq
      rw [hlen, Nat.sub_self] at hy
      cases hq; cases hy
      exact hR.mono (fun k hk => .inr ⟨rfl, hk⟩) (hR.turned ht (fun k _ h1 h2 => (hF k h1).2.2 (h.row k h2)) hx)
end

/-- A slice of ints, its row one's own. -/
def IntsK (S : Nat → Prop) (w : World) (a : Option Addr) (n c : Nat) (xs : List Int) : Prop := w.ownsRow 0 3 1 (.slice a n c) n (xs.map (Value.int .i64)) ∧ (∀ k, (Value.slice a n c).ownBlock = some k → S k) ∧ xs.length = n
section
variable {S S' T : Nat → Prop} {w w' : World} {a : Option Addr} {n c : Nat} {xs : List Int}
theorem IntsK.mono (h : IntsK S w a n c xs) (hS : ∀ k, S k → S' k) : IntsK S' w a n c xs := ⟨h.1, fun k hk => hS k (h.2.1 k hk), h.2.2⟩
theorem IntsK.turned (h : IntsK S w a n c xs) (ht : Turned T w w') (hT : ∀ k, k < w.heap.size → S k → ¬ T k) : IntsK S w' a n c xs := ⟨own_turned h.1 ht (fun k hk => hT k (h.1.lt k hk).2 (h.2.1 k hk)), h.2⟩
theorem IntsK.here (h : IntsK S w a n c xs) : IntsK (fun k => S k ∧ k < w.heap.size) w a n c xs := ⟨h.1, fun k hk => ⟨h.2.1 k hk, (h.1.lt k hk).2⟩, h.2.2⟩
theorem IntsK.rd (h : IntsK S w a n c xs) : IntsRd w a n xs := ⟨h.2.2, rowAt_of_own h.1⟩
theorem IntsK.max (h : IntsK S w a n c xs) : n ≤ maxLen := by have := own_cap h.1; omega
theorem IntsK.none (h : IntsK S w a n c xs) : a = .none → c = 0 := by rintro rfl; exact own_nil h.1
end

/-! ### the data of a unit -/
def PhiK : SetRel PhiD := fun S w cs x => ∃ aa ac, cs = [.int .i64 x.to, .slice aa x.args.length ac] ∧ IntsK S w aa x.args.length ac x.args
def InsK : SetRel InsD := fun S w cs x => ∃ aa ac, cs = [.int .i64 x.op, .int .i64 x.to, .slice aa x.args.length ac, .int .i64 x.num] ∧ IntsK S w aa x.args.length ac x.args
theorem phiK_sets : Sets 2 PhiK where
  mono := by rintro S S' w c x hS ⟨aa, ac, rfl, h⟩; exact ⟨aa, ac, rfl, h.mono hS⟩
  turned := by rintro S T w w' c x ht hT ⟨aa, ac, rfl, h⟩; exact ⟨aa, ac, rfl, h.turned ht hT⟩
  here := by rintro S w c x ⟨aa, ac, rfl, h⟩; exact ⟨aa, ac, rfl, h.here⟩
  len := by rintro S w c x ⟨aa, ac, rfl, h⟩; rfl
theorem insK_sets : Sets 4 InsK where
  mono := by rintro S S' w c x hS ⟨aa, ac, rfl, h⟩; exact ⟨aa, ac, rfl, h.mono hS⟩
  turned := by rintro S T w w' c x ht hT ⟨aa, ac, rfl, h⟩; exact ⟨aa, ac, rfl, h.turned ht hT⟩
  here := by rintro S w c x ⟨aa, ac, rfl, h⟩; exact ⟨aa, ac, rfl, h.here⟩
  len := by rintro S w c x ⟨aa, ac, rfl, h⟩; rfl
theorem phiK_rd : ∀ S w cs x, PhiK S w cs x → PhiR w cs x := by
  rintro S w c x ⟨aa, ac, rfl, h⟩
  exact ⟨aa, ac, rfl, ⟨⟨h.max, h.none⟩, h.rd⟩⟩
theorem insK_rd : ∀ S w cs x, InsK S w cs x → InsR w cs x := by
  rintro S w c x ⟨aa, ac, rfl, h⟩
  exact ⟨aa, ac, rfl, ⟨⟨h.max, h.none⟩, h.rd⟩⟩
def BlockK : SetRel BlockD := fun S w cs x => ∃ (pa : Option Addr) (pc : Nat) (ia : Option Addr) (ic : Nat) (na : Option Addr) (nc : Nat) (S1 S2 S3 : Nat → Prop), cs = [.slice pa x.phis.length pc, .slice ia x.ins.length ic, .int .i64 x.jump, .int .i64 x.jon, .slice na x.nx.length nc] ∧
  SepK 2 78 PhiK S1 w pa x.phis.length pc x.phis ∧ SepK 4 83 InsK S2 w ia x.ins.length ic x.ins ∧ IntsK S3 w na x.nx.length nc x.nx ∧
  (∀ k, S1 k → S k ∧ ¬ S2 k ∧ ¬ S3 k) ∧ (∀ k, S2 k → S k ∧ ¬ S1 k ∧ ¬ S3 k) ∧ (∀ k, S3 k → S k ∧ ¬ S1 k ∧ ¬ S2 k)
theorem blockK_sets : Sets 5 BlockK where
  mono := by
    rintro S S' w c x hS ⟨pa, pc, ia, ic, na, nc, S1, S2, S3, rfl, h1, h2, h3, d1, d2, d3⟩
    exact ⟨pa, pc, ia, ic, na, nc, S1, S2, S3, rfl, h1, h2, h3, fun k h => ⟨hS k (d1 k h).1, (d1 k h).2⟩, fun k h => ⟨hS k (d2 k h).1, (d2 k h).2⟩, fun k h => ⟨hS k (d3 k h).1, (d3 k h).2⟩⟩
  turned := by
    rintro S T w w' c x ht hT ⟨pa, pc, ia, ic, na, nc, S1, S2, S3, rfl, h1, h2, h3, d1, d2, d3⟩
    exact ⟨pa, pc, ia, ic, na, nc, S1, S2, S3, rfl, h1.turned phiK_sets ht (fun k hk h => hT k hk (d1 k h).1), h2.turned insK_sets ht (fun k hk h => hT k hk (d2 k h).1), h3.turned ht (fun k hk h => hT k hk (d3 k h).1), d1, d2, d3⟩
  here := by
    rintro S w c x ⟨pa, pc, ia, ic, na, nc, S1, S2, S3, rfl, h1, h2, h3, d1, d2, d3⟩
    exact ⟨pa, pc, ia, ic, na, nc, _, _, _, rfl, h1.here phiK_sets, h2.here insK_sets, h3.here, fun k h => ⟨⟨(d1 k h.1).1, h.2⟩, fun q => (d1 k h.1).2.1 q.1, fun q => (d1 k h.1).2.2 q.1⟩, fun k h => ⟨⟨(d2 k h.1).1, h.2⟩, fun q => (d2 k h.1).2.1 q.1, fun q => (d2 k h.1).2.2 q.1⟩, fun k h => ⟨⟨(d3 k h.1).1, h.2⟩, fun q => (d3 k h.1).2.1 q.1, fun q => (d3 k h.1).2.2 q.1⟩⟩
  len := by rintro S w c x ⟨pa, pc, ia, ic, na, nc, S1, S2, S3, rfl, _⟩; rfl
theorem blockK_rd : ∀ S w cs x, BlockK S w cs x → BlockR w cs x := by
  rintro S w c x ⟨pa, pc, ia, ic, na, nc, S1, S2, S3, rfl, h1, h2, h3, -⟩
  exact ⟨pa, pc, ia, ic, na, nc, rfl, ⟨⟨h1.max, h1.none⟩, h1.rd phiK_rd⟩, ⟨⟨h2.max, h2.none⟩, h2.rd insK_rd⟩, ⟨⟨h3.max, h3.none⟩, h3.rd⟩⟩
def CodeK : SetRel CodeD := fun S w cs x => ∃ ba bc, cs = [.int .i64 x.params, .int .i64 x.regs, .slice ba x.blocks.length bc] ∧ SepK 5 41 BlockK S w ba x.blocks.length bc x.blocks
theorem codeK_sets : Sets 3 CodeK where
  mono := by rintro S S' w c x hS ⟨ba, bc, rfl, h⟩; exact ⟨ba, bc, rfl, h.mono hS⟩
  turned := by rintro S T w w' c x ht hT ⟨ba, bc, rfl, h⟩; exact ⟨ba, bc, rfl, h.turned blockK_sets ht hT⟩
  here := by rintro S w c x ⟨ba, bc, rfl, h⟩; exact ⟨ba, bc, rfl, h.here blockK_sets⟩
  len := by rintro S w c x ⟨ba, bc, rfl, h⟩; rfl
theorem codeK_rd : ∀ S w cs x, CodeK S w cs x → CodeR w cs x := by
  rintro S w c x ⟨ba, bc, rfl, h⟩
  exact ⟨ba, bc, rfl, ⟨⟨h.max, h.none⟩, h.rd blockK_rd⟩⟩

/-! ### what marks leave -/
section
variable {α : Type} {cnt : α → Nat} {ren : Int → α → α}
end

end Go.Proofs.Ytajnldkempeheaa
