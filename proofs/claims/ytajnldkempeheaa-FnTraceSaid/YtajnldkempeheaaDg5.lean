/-
  The drawn unit: what lies where while a unit is drawn and written.
-/
import Derived.Test.YtajnldkempeheaaDg4

namespace Go.Proofs.Ytajnldkempeheaa
open Go.RowKit
set_option linter.unusedVariables false
set_option linter.unusedSimpArgs false

/-- One element, its blocks, and what comes of the list when these alone are written, or new ones. -/
theorem SepK.at2 {α : Type} {s : Nat} {e : TypeId} {R : SetRel α} {S : Nat → Prop} {w : World} {n c : Nat} {xs : List α} {g : Nat} (hR : Sets s R) (h : SepK s e R S w (some ⟨g, 0, .none⟩) n c xs) {j : Nat} (hj : j < n) :
    ∃ (x : α) (pre d post : List Value) (F : Nat → Prop), xs[j]? = some x ∧ d.length = s ∧ RowMid w 0 e s g n c (j * s) pre d post ∧ R F w d x ∧ (∀ k, F k → S k ∧ k ≠ g) ∧ S g ∧ g < w.heap.size ∧
      ∀ (w' : World) (d' : List Value) (x' : α) (S' F' T : Nat → Prop), Turned T w w' → (∀ k, T k → k < w.heap.size → k = g ∨ F k ∨ ¬ S k) → (∀ k, S k → S' k) → (∀ k, F' k → S' k ∧ k ≠ g ∧ (F k ∨ ¬ S k)) →
        RowMid w' 0 e s g n c (j * s) pre d' post → d'.length = s → R F' w' d' x' → SepK s e R S' w' (some ⟨g, 0, .none⟩) n c (xs.set j x') := by
  obtain ⟨cells, G, h⟩ := h
  have hc := h.count
  have hx := h.length
  have hcd : cells[j]? = some (cells[j]'(by omega)) := List.getElem?_eq_getElem _
  have hxd : xs[j]? = some (xs[j]'(by omega)) := List.getElem?_eq_getElem _
  have hsplit : ∀ d', cells.set j d' = cells.take j ++ d' :: cells.drop (j + 1) := fun d' => List.set_eq_take_append_cons_drop .. |>.trans (by rw [if_pos (by omega)])
  have hself : cells = cells.take j ++ cells[j]'(by omega) :: cells.drop (j + 1) := by rw [← hsplit]; simp
  have hpl : (cells.take j).flatten.length = j * s := by
    rw [flatten_len (s := s) (fun d hd => h.cl d (List.mem_of_mem_take hd)), List.length_take]
    congr 1; omega
  have hnr : ∀ k, G j k → S k ∧ k ≠ g := fun k hk => ⟨(h.sub j k hk).1, fun e => (h.sub j k hk).2 (by rw [e]; rfl)⟩
  refine ⟨_, (cells.take j).flatten, _, (cells.drop (j + 1)).flatten, G j, hxd, h.cl _ (List.getElem_mem _), ⟨?_, hpl⟩, h.el j _ _ hcd hxd, hnr, h.row g rfl, (h.own.lt g rfl).2, fun w' d' x' S' F' T ht hT hS hF hm hd' hr => ?_⟩
  · have hf : cells.flatten = (cells.take j).flatten ++ cells[j]'(by omega) ++ (cells.drop (j + 1)).flatten := by
      have h9 := congrArg List.flatten hself
      rw [List.flatten_append, List.flatten_cons, ← List.append_assoc] at h9
      exact h9
    rw [← hf]; exact h.own
  · refine ⟨cells.set j d', fun i k => (i = j ∧ F' k) ∨ (i ≠ j ∧ G i k), ?_, by simp [hc], ?_, by simp [hx], fun k hk => hS k (h.row k hk), fun i k hk => ?_, fun i i2 k hn hi hi2 => ?_, fun i d x hd hx2 => ?_⟩
    · rw [hsplit, List.flatten_append, List.flatten_cons, ← List.append_assoc]
      exact hm.row
    · intro d hd
      rcases List.mem_or_eq_of_mem_set hd with hd | rfl
      · exact h.cl d hd
      · exact hd'
    · rcases hk with ⟨-, hk⟩ | ⟨-, hk⟩
      · have := hF k hk
        exact ⟨this.1, fun e => by simp [Value.ownBlock] at e; omega⟩
      · have := h.sub i k hk
        exact ⟨hS k this.1, this.2⟩
    · rcases hi with ⟨e1, hi⟩ | ⟨e1, hi⟩ <;> rcases hi2 with ⟨e2, hi2⟩ | ⟨e2, hi2⟩
      · omega
      · rcases (hF k hi).2.2 with h3 | h3
        · exact h.apart j i2 k (by omega) h3 hi2
        · exact h3 (h.sub i2 k hi2).1
      · rcases (hF k hi2).2.2 with h3 | h3
        · exact h.apart j i k (by omega) h3 hi
        · exact h3 (h.sub i k hi).1
      · exact h.apart i i2 k hn hi hi2
    · by_cases hij : i = j
      · subst hij
        rw [List.getElem?_set_self (by omega)] at hd hx2
        cases hd; cases hx2
        exact hR.mono (fun k hk => .inl ⟨rfl, hk⟩) hr
      · rw [List.getElem?_set_ne (by omega)] at hd hx2
        exact hR.mono (fun k hk => .inr ⟨hij, hk⟩) (hR.turned ht (fun k h1 h2 h3 => by
          rcases hT k h3 h1 with rfl | h3 | h3
          · exact (h.sub i k h2).2 rfl
          · exact h.apart i j k hij h2 h3
          · exact h3 (h.sub i k h2).1) (h.el i d x hd hx2))

/-- The unit that is being drawn: its variable's block ub, the result's rb. -/
structure UnSt (w0 : World) (br : Nat) (ra : Option Addr) (rl rc : Nat) (bs : List Int) (w : World) (ub rb : Nat) (us : List CodeD) (ua : Option Addr) (uc : Nat) (S : Nat → Prop) (K : Nat) (W : World) : Prop where
  u : W.heap[ub]? = some (.cells #[.slice ua us.length uc] 25 (0, 0))
  r : W.heap[rb]? = some (.cells #[.slice none 0 0] 25 (0, 0))
  un : SepK 3 37 CodeK S W ua us.length uc us
  su : ∀ q, S q → w.heap.size ≤ q ∧ q < W.heap.size ∧ q ≠ ub ∧ q ≠ rb
  rd : RdAt w0 br ra rl rc bs K w W
  lo : br < w.heap.size ∧ w0.heap.size ≤ w.heap.size ∧ w.heap.size ≤ ub ∧ w.heap.size ≤ rb ∧ ub ≠ rb
section
variable {w0 w W W' w9 : World} {br : Nat} {ra : Option Addr} {rl rc : Nat} {bs : List Int} {ub rb : Nat} {us : List CodeD} {ua : Option Addr} {uc : Nat} {S : Nat → Prop} {K K' : Nat}
/-- Something else is written: the reader, or blocks of its own. -/
theorem UnSt.move {D : Nat → Prop} (h : UnSt w0 br ra rl rc bs w ub rb us ua uc S K W) (ht : Turned D W W') (hD : ∀ q, D q → ¬ S q ∧ q ≠ ub ∧ q ≠ rb) (hr : RdAt w0 br ra rl rc bs K' w W') : UnSt w0 br ra rl rc bs w ub rb us ua uc S K' W' :=
  ⟨(ht.block _ (Array.getElem?_eq_some_iff.1 h.u).1 (fun e => (hD _ e).2.1 rfl)).trans h.u, (ht.block _ (Array.getElem?_eq_some_iff.1 h.r).1 (fun e => (hD _ e).2.2 rfl)).trans h.r, h.un.turned codeK_sets ht (fun q _ hs hd => (hD q hd).1 hs), fun q hq => ⟨(h.su q hq).1, Nat.lt_of_lt_of_le (h.su q hq).2.1 ht.size, (h.su q hq).2.2⟩, hr, h.lo⟩
theorem UnSt.later (h : UnSt w0 br ra rl rc bs w ub rb us ua uc S K W) (hb : Below W.heap.size W W') : UnSt w0 br ra rl rc bs w ub rb us ua uc S K W' :=
  h.move (D := fun _ => False) (turned_of_below hb (fun k h1 h2 => by omega)) (fun q hq => hq.elim) (h.rd.later hb)
theorem UnSt.overR (h : UnSt w0 br ra rl rc bs w ub rb us ua uc S K W) (ht : Turned (fun k => k = br) W W') (hr : RdAt w0 br ra rl rc bs K' w W') : UnSt w0 br ra rl rc bs w ub rb us ua uc S K' W' := by
  have hlo := h.lo
  exact h.move ht (fun q hq => by subst hq; exact ⟨fun hs => by have := (h.su _ hs).1; omega, by omega, by omega⟩) hr
theorem UnSt.drew (h : UnSt w0 br ra rl rc bs w ub rb us ua uc S K W) (hg : W.grownBy W' (some br)) (hr : RdAt w0 br ra rl rc bs K' w W') : UnSt w0 br ra rl rc bs w ub rb us ua uc S K' W' :=
  h.overR (turned_of_grown hg (S := fun k => k = br) (fun k hk => (Option.some.inj hk).symm)) hr
theorem UnSt.more (h : UnSt w0 br ra rl rc bs w ub rb us ua uc S K W) (hK : K ≤ K') : UnSt w0 br ra rl rc bs w ub rb us ua uc S K' W := ⟨h.u, h.r, h.un, h.su, h.rd.more hK, h.lo⟩
/-- The reader as it is now. -/
theorem UnSt.now (h : UnSt w0 br ra rl rc bs w ub rb us ua uc S K W) : RdAt w0 br ra rl rc bs K W W := ⟨h.rd.rd, Turned.refl _ _⟩
/-- Blocks of its own are written. -/
theorem UnSt.rdOwn {T : Nat → Prop} (h : UnSt w0 br ra rl rc bs w ub rb us ua uc S K W) (ht : Turned T W W') (hT : ∀ k, T k → k < W.heap.size → w.heap.size ≤ k) : RdAt w0 br ra rl rc bs K w W' := by
  have hlo := h.lo
  have hbr := h.rd.lt
  refine h.rd.stay ht (fun k hk => ?_) hlo.2.1
  rcases Nat.lt_or_ge k W.heap.size with h1 | h1
  · have := hT k hk h1; omega
  · have := h.rd.turned.size; omega
/-- One code: its cells, its blocks, and what comes of the unit when these alone are written, or new ones. -/
theorem UnSt.setC (h : UnSt w0 br ra rl rc bs w ub rb us ua uc S K W) {j : Nat} {x : CodeD} (hx : us[j]? = some x) :
    ∃ (g : Nat) (ba : Option Addr) (bc : Nat) (pre post : List Value) (F : Nat → Prop), ua = some ⟨g, 0, none⟩ ∧ RowMid W 0 37 3 g us.length uc (j * 3) pre [.int .i64 x.params, .int .i64 x.regs, .slice ba x.blocks.length bc] post ∧ SepK 5 41 BlockK F W ba x.blocks.length bc x.blocks ∧
      (∀ k, F k → S k ∧ k ≠ g) ∧ S g ∧
      ∀ (W' : World) (p r : Int) (ba' : Option Addr) (bc' : Nat) (bl' : List BlockD) (F' T : Nat → Prop), Turned T W W' → (∀ k, T k → k < W.heap.size → k = g ∨ F k) →
        (∀ k, F' k → (F k ∨ ¬ S k) ∧ w.heap.size ≤ k ∧ k < W'.heap.size ∧ k ≠ ub ∧ k ≠ rb) → RowMid W' 0 37 3 g us.length uc (j * 3) pre [.int .i64 p, .int .i64 r, .slice ba' bl'.length bc'] post → SepK 5 41 BlockK F' W' ba' bl'.length bc' bl' →
        UnSt w0 br ra rl rc bs w ub rb (us.set j ⟨p, r, bl'⟩) ua uc (fun q => S q ∨ F' q) K W' := by
  have hj := (List.getElem?_eq_some_iff.1 hx).1
  rcases h.un.case with ⟨-, h0, -⟩ | ⟨g, rfl⟩
  · omega
  obtain ⟨x2, pre, d, post, F, hx2, hd, hm, hR, hF, hg, hgl, hcl⟩ := h.un.at2 codeK_sets hj
  rw [hx] at hx2
  cases hx2
  obtain ⟨ba, bc, rfl, hbl⟩ := hR
  refine ⟨g, ba, bc, pre, post, F, rfl, hm, hbl, hF, hg, fun W' p r ba' bc' bl' F' T ht hT hF' hm' hbl' => ?_⟩
  have hlo := h.lo
  have hTs : ∀ k, T k → k < W.heap.size → S k := fun k hk h1 => by
    rcases hT k hk h1 with rfl | h2
    · exact hg
    · exact (hF k h2).1
  refine ⟨?_, ?_, ?_, fun q hq => ?_, h.rdOwn ht (fun k hk h1 => (h.su k (hTs k hk h1)).1), h.lo⟩
  · rw [List.length_set]
    exact (ht.block _ (Array.getElem?_eq_some_iff.1 h.u).1 (fun e => (h.su _ (hTs _ e (Array.getElem?_eq_some_iff.1 h.u).1)).2.2.1 rfl)).trans h.u
  · exact (ht.block _ (Array.getElem?_eq_some_iff.1 h.r).1 (fun e => (h.su _ (hTs _ e (Array.getElem?_eq_some_iff.1 h.r).1)).2.2.2 rfl)).trans h.r
  · rw [List.length_set]
    refine hcl W' _ ⟨p, r, bl'⟩ _ F' T ht (fun k hk h1 => by rcases hT k hk h1 with h2 | h2; exact .inl h2; exact .inr (.inl h2)) (fun k hk => .inl hk) (fun k hk => ⟨.inr hk, ?_, (hF' k hk).1⟩) hm' rfl ⟨ba', bc', rfl, hbl'⟩
    rintro rfl
    rcases (hF' _ hk).1 with h2 | h2
    · exact (hF _ h2).2 rfl
    · exact h2 hg
  · rcases hq with hq | hq
    · have := h.su q hq
      exact ⟨this.1, Nat.lt_of_lt_of_le this.2.1 ht.size, this.2.2⟩
    · have := hF' q hq
      exact this.2
/-- One block of one code: its cells, its lists. -/
structure BlAt (us : List CodeD) (uc : Nat) (S : Nat → Prop) (W : World) (j b : Nat) (x : CodeD) (y : BlockD) (g gb bc : Nat) (pa : Option Addr) (pc : Nat) (ia : Option Addr) (ic : Nat) (na : Option Addr) (nc : Nat) (pre post pre2 post2 : List Value) (S1 S2 S3 F : Nat → Prop) : Prop where
  code : RowMid W 0 37 3 g us.length uc (j * 3) pre [.int .i64 x.params, .int .i64 x.regs, .slice (some ⟨gb, 0, none⟩) x.blocks.length bc] post
  blk : RowMid W 0 41 5 gb x.blocks.length bc (b * 5) pre2 [.slice pa y.phis.length pc, .slice ia y.ins.length ic, .int .i64 y.jump, .int .i64 y.jon, .slice na y.nx.length nc] post2
  phis : SepK 2 78 PhiK S1 W pa y.phis.length pc y.phis
  ins : SepK 4 83 InsK S2 W ia y.ins.length ic y.ins
  nx : IntsK S3 W na y.nx.length nc y.nx
  d1 : ∀ k, S1 k → F k ∧ ¬ S2 k ∧ ¬ S3 k
  d2 : ∀ k, S2 k → F k ∧ ¬ S1 k ∧ ¬ S3 k
  d3 : ∀ k, S3 k → F k ∧ ¬ S1 k ∧ ¬ S2 k
  sub : ∀ k, F k → S k ∧ k ≠ g ∧ k ≠ gb
  own : S g ∧ S gb ∧ g ≠ gb
theorem UnSt.setB (h : UnSt w0 br ra rl rc bs w ub rb us ua uc S K W) {j b : Nat} {x : CodeD} {y : BlockD} (hx : us[j]? = some x) (hy : x.blocks[b]? = some y) :
    ∃ g gb bc pa pc ia ic na nc pre post pre2 post2 S1 S2 S3 F, ua = some ⟨g, 0, none⟩ ∧ BlAt us uc S W j b x y g gb bc pa pc ia ic na nc pre post pre2 post2 S1 S2 S3 F ∧
      ∀ (W' : World) (d' : List Value) (y' : BlockD) (F' T : Nat → Prop), Turned T W W' → (∀ k, T k → k < W.heap.size → k = gb ∨ F k) → (∀ k, F' k → (F k ∨ ¬ S k) ∧ w.heap.size ≤ k ∧ k < W'.heap.size ∧ k ≠ ub ∧ k ≠ rb) →
        RowMid W' 0 41 5 gb x.blocks.length bc (b * 5) pre2 d' post2 → d'.length = 5 → BlockK F' W' d' y' →
        ∃ S', UnSt w0 br ra rl rc bs w ub rb (us.set j ⟨x.params, x.regs, x.blocks.set b y'⟩) ua uc S' K W' := by
  obtain ⟨g, ba, bc, pre, post, F, rfl, hm, hbl, hF, hg, hcl⟩ := h.setC hx
  have hb := (List.getElem?_eq_some_iff.1 hy).1
  rcases hbl.case with ⟨-, h0, -⟩ | ⟨gb, rfl⟩
  · omega
  obtain ⟨y2, pre2, d, post2, F2, hy2, hd, hm2, hR2, hF2, hg2, hgl2, hcl2⟩ := hbl.at2 blockK_sets hb
  rw [hy] at hy2
  cases hy2
  obtain ⟨pa, pc, ia, ic, na, nc, S1, S2, S3, rfl, h1, h2, h3, d1, d2, d3⟩ := hR2
  have hgg : g ≠ gb := fun e => (hF gb hg2).2 e.symm
  refine ⟨g, gb, bc, pa, pc, ia, ic, na, nc, pre, post, pre2, post2, S1, S2, S3, F2, rfl, ⟨hm, hm2, h1, h2, h3, d1, d2, d3, fun k hk => ⟨(hF k (hF2 k hk).1).1, (hF k (hF2 k hk).1).2, (hF2 k hk).2⟩, hg, (hF gb hg2).1, hgg⟩, fun W' d' y' F' T ht hT hF' hm' hd' hr => ?_⟩
  have hTF : ∀ k, T k → k < W.heap.size → F k := fun k hk h1 => by
    rcases hT k hk h1 with rfl | h2
    · exact hg2
    · exact (hF2 k h2).1
  have hgl := (hm.row.lt g rfl).2
  have hnew := hcl2 W' d' y' (fun q => F q ∨ F' q) F' T ht (fun k hk h1 => by rcases hT k hk h1 with h2 | h2; exact .inl h2; exact .inr (.inl h2)) (fun k hk => .inl hk) (fun k hk => ⟨.inr hk, ?_, ?_⟩) hm' hd' hr
  · have hn : (x.blocks.set b y').length = x.blocks.length := List.length_set ..
    refine ⟨_, hcl W' x.params x.regs (some ⟨gb, 0, none⟩) bc (x.blocks.set b y') _ T ht (fun k hk h1 => .inr (hTF k hk h1)) (fun k hk => ?_) (hn ▸ hm.turned ht (fun e => (hF g (hTF g e hgl)).2 rfl)) (hn ▸ hnew)⟩
    rcases hk with hk | hk
    · have := h.su k (hF k hk).1
      exact ⟨.inl hk, this.1, Nat.lt_of_lt_of_le this.2.1 ht.size, this.2.2⟩
    · have := hF' k hk
      refine ⟨?_, this.2⟩
      rcases this.1 with h5 | h5
      · exact .inl (hF2 k h5).1
      · exact .inr h5
  · rintro rfl
    rcases (hF' _ hk).1 with h5 | h5
    · exact (hF2 _ h5).2 rfl
    · exact h5 (hF _ hg2).1
  · rcases (hF' _ hk).1 with h5 | h5
    · exact .inl h5
    · exact .inr (fun h6 => h5 (hF _ h6).1)
/-- A code was appended. -/
theorem UnSt.addCode (h : UnSt w0 br ra rl rc bs w ub rb us ua uc S K W) {lo0 : Nat} {cells : List (List Value)} {G : Nat → Nat → Prop} (hs : SepRows 3 37 CodeK S W ua us.length uc us cells G) {d : List Value} {c : CodeD} (hx : CodeK (fun k => lo0 ≤ k) W d c)
    (h2 : ∀ q, S q → q < lo0) (h0 : ub < lo0 ∧ rb < lo0 ∧ w.heap.size ≤ lo0) (hb : Below W.heap.size W W') {a' : Option Addr} {c' : Nat} (hown : w9.ownsRow 0 37 3 (.slice a' (us.length + 1) c') (us.length + 1) (cells.flatten ++ d)) (hg : W'.grownBy w9 (Value.slice ua us.length uc).ownBlock)
    (hl : (Value.slice a' (us.length + 1) c').ownBlock = (Value.slice ua us.length uc).ownBlock ∨ (Value.slice a' (us.length + 1) c').ownBlock = some W'.heap.size) :
    w9.heap[ub]? = some (.cells #[.slice ua us.length uc] 25 (0, 0)) ∧
    ∃ S', UnSt w0 br ra rl rc bs w ub rb (us ++ [c]) a' c' S' K (w9.setCell ⟨ub, 0, none⟩ (.slice a' (us.length + 1) c')) := by
  have h1 := h.later hb
  have hlo := h.lo
  have hbs := hb.size
  have ht9 : Turned (fun q => (Value.slice ua us.length uc).ownBlock = some q) W' w9 := turned_of_grown hg (fun k hk => hk)
  have hs' := hs.turned codeK_sets (turned_of_below hb (S := fun _ => False) (fun k h1 h2 => by omega)) (fun q _ _ h => h)
  have hsr : ∀ q, (Value.slice ua us.length uc).ownBlock = some q → S q := fun q hq => hs.row q hq
  have a1 := (Array.getElem?_eq_some_iff.1 h.u).1
  have a2 := (Array.getElem?_eq_some_iff.1 h.r).1
  have hu9 := (ht9.block _ (Array.getElem?_eq_some_iff.1 h1.u).1 (fun e => (h.su _ (hsr _ e)).2.2.1 rfl)).trans h1.u
  have hr9 := (ht9.block _ (Array.getElem?_eq_some_iff.1 h1.r).1 (fun e => (h.su _ (hsr _ e)).2.2.2 rfl)).trans h1.r
  have hts := turned_store w9 ub 0 (.slice a' (us.length + 1) c')
  have hxk := codeK_sets.here hx
  have hk9 := SepRows.push (S' := fun q => w.heap.size ≤ q ∧ q ≠ ub ∧ q ≠ rb) codeK_sets hs' (codeK_sets.below hb hxk) hown hg hl
    (fun k hk => ⟨⟨by omega, by omega, by omega⟩, by omega, fun hs2 => by have := h2 k hs2; omega⟩) (fun k hk => by have := h.su k hk; exact ⟨⟨this.1, this.2.2⟩, by omega⟩) ⟨by omega, by omega, by omega⟩
  have hk10 := (hk9.here codeK_sets).turned codeK_sets hts (fun q _ h1 h2 => h1.1.2.1 h2)
  have htt : Turned (fun q => (Value.slice ua us.length uc).ownBlock = some q ∨ q = ub) W' (w9.setCell ⟨ub, 0, none⟩ (.slice a' (us.length + 1) c')) := (ht9.mono (fun k hk => .inl hk)).trans (hts.mono (fun k hk => .inr hk))
  refine ⟨hu9, _, ?_, (hts.block _ (Array.getElem?_eq_some_iff.1 hr9).1 (by omega)).trans hr9, by rw [List.length_append, List.length_singleton]; exact hk10, fun q hq => ?_, h1.rdOwn htt (fun q hq _ => ?_), h.lo⟩
  · rw [List.length_append, List.length_singleton]
    exact (heap_setCell_same w9 ub 0 _ _ _ hu9).trans rfl
  · rw [World.size_setCell]
    exact ⟨hq.1.1, hq.2, hq.1.2⟩
  · rcases hq with hq | rfl
    · exact (h.su q (hsr q hq)).1
    · omega
/-- A phi was appended to a block's. -/
theorem UnSt.addPhi (h : UnSt w0 br ra rl rc bs w ub rb us ua uc S K W) {j b lo0 : Nat} {x : CodeD} {y : BlockD} (hx : us[j]? = some x) (hy : x.blocks[b]? = some y) (hS : ∀ q, S q → q < lo0) (h0 : ub < lo0 ∧ rb < lo0 ∧ w.heap.size ≤ lo0 ∧ lo0 ≤ W.heap.size) :
    ∃ g gb bc pa pc cells G S1, ua = some ⟨g, 0, none⟩ ∧ g < lo0 ∧ gb < lo0 ∧ W.cell? ⟨g, j * 3 + 2, none⟩ = some (.slice (some ⟨gb, 0, none⟩) x.blocks.length bc) ∧ W.cell? ⟨gb, b * 5, none⟩ = some (.slice pa y.phis.length pc) ∧ SepRows 2 78 PhiK S1 W pa y.phis.length pc y.phis cells G ∧
      ∀ (W' w9 : World) (a' : Option Addr) (c' : Nat) (d : List Value) (ph : PhiD), Below W.heap.size W W' → PhiK (fun k => lo0 ≤ k) W d ph →
        w9.ownsRow 0 78 2 (.slice a' (y.phis.length + 1) c') (y.phis.length + 1) (cells.flatten ++ d) → W'.grownBy w9 (Value.slice pa y.phis.length pc).ownBlock →
        ((Value.slice a' (y.phis.length + 1) c').ownBlock = (Value.slice pa y.phis.length pc).ownBlock ∨ (Value.slice a' (y.phis.length + 1) c').ownBlock = some W'.heap.size) →
        (W'.cell? ⟨g, j * 3 + 2, none⟩ = some (.slice (some ⟨gb, 0, none⟩) x.blocks.length bc) ∧ W'.cell? ⟨gb, b * 5, none⟩ = some (.slice pa y.phis.length pc)) ∧
        (w9.cell? ⟨g, j * 3 + 2, none⟩ = some (.slice (some ⟨gb, 0, none⟩) x.blocks.length bc) ∧ w9.cell? ⟨gb, b * 5, none⟩ = some (.slice pa y.phis.length pc)) ∧ w9.frozen? ⟨gb, b * 5, none⟩ = false ∧ (∀ q, lo0 ≤ q → q < W.heap.size → w9.heap[q]? = W.heap[q]?) ∧
        (∃ S', UnSt w0 br ra rl rc bs w ub rb (us.set j ⟨x.params, x.regs, x.blocks.set b ⟨y.phis ++ [ph], y.ins, y.jump, y.jon, y.nx⟩⟩) ua uc S' K (w9.setCell ⟨gb, b * 5, none⟩ (.slice a' (y.phis.length + 1) c'))) := by
  obtain ⟨g, gb, bc, pa, pc, ia, ic, na, nc, pre, post, pre2, post2, S1, S2, S3, F, hua, hB, hcl⟩ := h.setB hx hy
  obtain ⟨cells, G, hrw⟩ := hB.phis
  have hg := hS g hB.own.1
  have hgb := hS gb hB.own.2.1
  have hF : ∀ q, F q → q < lo0 := fun q hq => hS q (hB.sub q hq).1
  refine ⟨g, gb, bc, pa, pc, cells, G, S1, hua, hg, hgb, hB.code.cell rfl, hB.blk.cell (q := 0) rfl, hrw, fun W' w9 a' c' d ph hb hph hown hgr hl => ?_⟩
  have hbs := hb.size
  have ht9 : Turned (fun q => (Value.slice pa y.phis.length pc).ownBlock = some q) W' w9 := turned_of_grown hgr (fun k hk => hk)
  have h9s := ht9.size
  have hsr : ∀ q, (Value.slice pa y.phis.length pc).ownBlock = some q → F q ∧ ¬ S2 q ∧ ¬ S3 q := fun q hq => hB.d1 q (hrw.row q hq)
  have htW : Turned (fun q => (Value.slice pa y.phis.length pc).ownBlock = some q) W w9 := (turned_of_below hb (fun k h1 h2 => by omega)).trans ht9
  have hc9 := hB.code.turned htW (fun e => (hB.sub _ (hsr _ e).1).2.1 rfl)
  have hb9 := hB.blk.turned htW (fun e => (hB.sub _ (hsr _ e).1).2.2 rfl)
  have htb : Turned (fun _ => False) W W' := turned_of_below hb (fun k h1 h2 => by omega)
  have hts := turned_store w9 gb (b * 5) (.slice a' (y.phis.length + 1) c')
  have htt : Turned (fun q => (Value.slice pa y.phis.length pc).ownBlock = some q ∨ q = gb) W (w9.setCell ⟨gb, b * 5, none⟩ (.slice a' (y.phis.length + 1) c')) := (htW.mono (fun k hk => .inl hk)).trans (hts.mono (fun k hk => .inr hk))
  have hs' := hrw.turned phiK_sets htb (fun q _ _ h => h)
  have hpk := phiK_sets.here hph
  have hk9 := SepRows.push (S' := fun q => S1 q ∨ lo0 ≤ q) phiK_sets hs' (phiK_sets.below hb hpk) hown hgr hl
    (fun k hk => ⟨.inr hk.1, by omega, fun hs1 => by have := hF k (hB.d1 k hs1).1; omega⟩) (fun k hk => ⟨.inl hk, by have := hF k (hB.d1 k hk).1; omega⟩) (.inr (by omega))
  have hk10 := (hk9.here phiK_sets).turned phiK_sets hts (fun q _ h1 h2 => by
    rcases h1.1 with h3 | h3
    · exact (hB.sub q (hB.d1 q h3).1).2.2 h2
    · have h2 : q = gb := h2
      omega)
  have hn2 : ∀ q, S2 q → ¬ ((Value.slice pa y.phis.length pc).ownBlock = some q ∨ q = gb) := fun q hq hh => by
    rcases hh with hh | hh
    · exact (hsr q hh).2.1 hq
    · exact (hB.sub q (hB.d2 q hq).1).2.2 hh
  have hn3 : ∀ q, S3 q → ¬ ((Value.slice pa y.phis.length pc).ownBlock = some q ∨ q = gb) := fun q hq hh => by
    rcases hh with hh | hh
    · exact (hsr q hh).2.2 hq
    · exact (hB.sub q (hB.d3 q hq).1).2.2 hh
  refine ⟨⟨(hB.code.turned htb (fun e => e)).cell rfl, (hB.blk.turned htb (fun e => e)).cell (q := 0) rfl⟩, ⟨hc9.cell rfl, hb9.cell (q := 0) rfl⟩, hb9.frozen 0, fun q h1 h2 => htW.block q h2 (fun e => by have := hF q (hsr q e).1; omega), ?_⟩
  refine hcl _ [.slice a' (y.phis.length + 1) c', .slice ia y.ins.length ic, .int .i64 y.jump, .int .i64 y.jon, .slice na y.nx.length nc] ⟨y.phis ++ [ph], y.ins, y.jump, y.jon, y.nx⟩ (fun q => F q ∨ (lo0 ≤ q ∧ q < w9.heap.size)) _ htt (fun k hk _ => ?_) (fun k hk => ?_) (hb9.put (q := 0) (Nat.zero_lt_succ _) _) rfl
    ⟨a', c', ia, ic, na, nc, fun q => (S1 q ∨ lo0 ≤ q) ∧ q < w9.heap.size, S2, S3, by simp, by simpa using hk10, hB.ins.turned insK_sets htt (fun q _ h1 h2 => hn2 q h1 h2), hB.nx.turned htt (fun q _ h1 h2 => hn3 q h1 h2), fun k hk => ?_, fun k hk => ?_, fun k hk => ?_⟩
  · rcases hk with hk | hk
    · exact .inr (hsr k hk).1
    · exact .inl hk
  · rw [World.size_setCell]
    rcases hk with hk | hk
    · have := h.su k (hB.sub k hk).1
      exact ⟨.inl hk, this.1, by omega, this.2.2⟩
    · exact ⟨.inr (fun h3 => by have := hS k h3; omega), by omega, by omega, by omega, by omega⟩
  · rcases hk.1 with h3 | h3
    · have := hB.d1 k h3
      exact ⟨.inl this.1, this.2⟩
    · exact ⟨.inr ⟨h3, hk.2⟩, fun h4 => by have := hF k (hB.d2 k h4).1; omega, fun h4 => by have := hF k (hB.d3 k h4).1; omega⟩
  · have := hB.d2 k hk
    exact ⟨.inl this.1, fun h4 => by rcases h4.1 with h5 | h5; exact this.2.1 h5; have := hF k this.1; omega, this.2.2⟩
  · have := hB.d3 k hk
    exact ⟨.inl this.1, fun h4 => by rcases h4.1 with h5 | h5; exact this.2.1 h5; have := hF k this.1; omega, this.2.2⟩
end
theorem smallC_set {N N' : Nat} {us : List CodeD} (h : ∀ c ∈ us, SmallC N c) {j b : Nat} {x : CodeD} {y' : BlockD} (hx : us[j]? = some x) (hN : N ≤ N') (hy : szBlockD y' ≤ N') : ∀ c ∈ us.set j ⟨x.params, x.regs, x.blocks.set b y'⟩, SmallC N' c := by
  have hm : ∀ c, SmallC N c → SmallC N' c := fun c hc => ⟨hc.1, hc.2.1, hc.2.2.1, fun z hz => Nat.le_trans (hc.2.2.2 z hz) hN⟩
  intro c hc
  rcases List.mem_or_eq_of_mem_set hc with hc | rfl
  · exact hm c (h c hc)
  · have hX := hm x (h x (List.mem_of_getElem? hx))
    refine ⟨hX.1, hX.2.1, by rw [List.length_set]; exact hX.2.2.1, fun z hz => ?_⟩
    rcases List.mem_or_eq_of_mem_set hz with hz | rfl
    · exact hX.2.2.2 z hz
    · exact hy
theorem sz_phi {y : BlockD} {ph : PhiD} : szBlockD ⟨y.phis ++ [ph], y.ins, y.jump, y.jon, y.nx⟩ = szBlockD y + 1 + ph.args.length := by
  simp only [szBlockD, szS, sumOf_snoc, List.length_append, List.length_singleton, szPhiD]
  omega
theorem small_phi {N : Nat} {us : List CodeD} (h : ∀ c ∈ us, SmallC N c) {j b : Nat} {x : CodeD} {y : BlockD} {ph : PhiD} (hx : us[j]? = some x) (hy : x.blocks[b]? = some y) (hp : ph.args.length ≤ 7) :
    ∀ c ∈ us.set j ⟨x.params, x.regs, x.blocks.set b ⟨y.phis ++ [ph], y.ins, y.jump, y.jon, y.nx⟩⟩, SmallC (N + 8) c := by
  refine smallC_set h hx (by omega) ?_
  rw [sz_phi]
  have := (h x (List.mem_of_getElem? hx)).2.2.2 y (List.mem_of_getElem? hy)
  omega
/-- The phi that is being drawn. -/
structure PhSt (w0 : World) (br : Nat) (ra : Option Addr) (rl rc : Nat) (bs : List Int) (w : World) (ub rb : Nat) (us : List CodeD) (ua : Option Addr) (uc : Nat) (S : Nat → Prop) (K : Nat) (pb : Nat) (tq : Int) (xs : List Int) (aa : Option Addr) (k ac : Nat) (W : World) : Prop where
  un : UnSt w0 br ra rl rc bs w ub rb us ua uc S K W
  p : W.heap[pb]? = some (.cells #[.int .i64 tq, .slice aa k ac] 78 (0, 0))
  own : W.ownsRow 0 3 1 (.slice aa k ac) k (xs.map (Value.int .i64))
  len : xs.length = k
  new : ∀ q, (Value.slice aa k ac).ownBlock = some q → pb < q
  lt : (∀ q, S q → q < pb) ∧ ub < pb ∧ rb < pb ∧ w.heap.size ≤ pb ∧ br < pb
section
variable {w0 w W W' w9 : World} {br : Nat} {ra : Option Addr} {rl rc : Nat} {bs : List Int} {ub rb : Nat} {us : List CodeD} {ua : Option Addr} {uc : Nat} {S : Nat → Prop} {K K' pb k : Nat} {tq : Int} {xs : List Int} {aa : Option Addr} {ac : Nat}
theorem PhSt.start (h : UnSt w0 br ra rl rc bs w ub rb us ua uc S K W) (tq : Int) : PhSt w0 br ra rl rc bs w ub rb us ua uc S K W.heap.size tq [] none 0 0 (W.alloc (.cells #[.int .i64 tq, .slice none 0 0] 78)) :=
  ⟨h.later ((Below.refl _ _).alloc (Nat.le_refl _) _), heap_alloc_new _ _, World.ownsRow_nil _ _ _ _, rfl, by simp [Value.ownBlock], fun q hq => (h.su q hq).2.1, (Array.getElem?_eq_some_iff.1 h.u).1, (Array.getElem?_eq_some_iff.1 h.r).1, by have := h.lo; have := (Array.getElem?_eq_some_iff.1 h.u).1; omega, h.rd.lt.1⟩
theorem PhSt.later (h : PhSt w0 br ra rl rc bs w ub rb us ua uc S K pb tq xs aa k ac W) (hb : Below W.heap.size W W') : PhSt w0 br ra rl rc bs w ub rb us ua uc S K pb tq xs aa k ac W' :=
  ⟨h.un.later hb, (hb.block _ (Array.getElem?_eq_some_iff.1 h.p).1).trans h.p, ownsRow_below h.own hb, h.len, h.new, h.lt⟩
theorem PhSt.drew (h : PhSt w0 br ra rl rc bs w ub rb us ua uc S K pb tq xs aa k ac W) (hg : W.grownBy W' (some br)) (hr : RdAt w0 br ra rl rc bs K' w W') : PhSt w0 br ra rl rc bs w ub rb us ua uc S K' pb tq xs aa k ac W' := by
  have hl := h.lt
  have ht := turned_of_grown hg (S := fun k => k = br) (fun k hk => (Option.some.inj hk).symm)
  exact ⟨h.un.drew hg hr, (ht.block _ (Array.getElem?_eq_some_iff.1 h.p).1 (by omega)).trans h.p, own_turned h.own ht (fun k hk => by have := h.new k hk; omega), h.len, h.new, h.lt⟩
theorem PhSt.more (h : PhSt w0 br ra rl rc bs w ub rb us ua uc S K pb tq xs aa k ac W) (hK : K ≤ K') : PhSt w0 br ra rl rc bs w ub rb us ua uc S K' pb tq xs aa k ac W := ⟨h.un.more hK, h.p, h.own, h.len, h.new, h.lt⟩
theorem PhSt.put (h : PhSt w0 br ra rl rc bs w ub rb us ua uc S K pb tq xs aa k ac W) (hb : Below W.heap.size W W') {v : Int} {a' : Option Addr} {c' : Nat}
    (hr : w9.ownsRow 0 3 1 (.slice a' (k + 1) c') (k + 1) (xs.map (Value.int .i64) ++ [v].map (Value.int .i64))) (hg : W'.grownBy w9 (Value.slice aa k ac).ownBlock)
    (hl : (Value.slice a' (k + 1) c').ownBlock = (Value.slice aa k ac).ownBlock ∨ (Value.slice a' (k + 1) c').ownBlock = some W'.heap.size) :
    w9.heap[pb]? = some (.cells #[.int .i64 tq, .slice aa k ac] 78 (0, 0)) ∧ UnSt w0 br ra rl rc bs w ub rb us ua uc S K w9 ∧ PhSt w0 br ra rl rc bs w ub rb us ua uc S K pb tq (xs ++ [v]) a' (k + 1) c' (w9.setCell ⟨pb, 1, none⟩ (.slice a' (k + 1) c')) := by
  have h1 := h.later hb
  have hlt := h.lt
  have ht : Turned (fun q => (Value.slice aa k ac).ownBlock = some q) W' w9 := turned_of_grown hg (fun k hk => hk)
  have hp9 := (ht.block _ (Array.getElem?_eq_some_iff.1 h1.p).1 (fun e => by have := h.new _ e; omega)).trans h1.p
  have ht2 := turned_store w9 pb 1 (.slice a' (k + 1) c')
  have hnew : ∀ g, (Value.slice a' (k + 1) c').ownBlock = some g → pb < g := fun g hgg => by
    rcases hl with e | e
    · exact h.new g (e ▸ hgg)
    · rw [e] at hgg
      cases hgg
      exact (Array.getElem?_eq_some_iff.1 h1.p).1
  have htt : Turned (fun q => (Value.slice aa k ac).ownBlock = some q ∨ q = pb) W' (w9.setCell ⟨pb, 1, none⟩ (.slice a' (k + 1) c')) := (ht.mono (fun k hk => .inl hk)).trans (ht2.mono (fun k hk => .inr hk))
  have hT : ∀ q, ((Value.slice aa k ac).ownBlock = some q ∨ q = pb) → pb ≤ q := fun q hq => by
    rcases hq with hq | rfl
    · exact Nat.le_of_lt (h.new q hq)
    · exact Nat.le_refl _
  refine ⟨hp9, h1.un.move ht (fun q hq => by have := h.new q hq; exact ⟨fun hs => by have := hlt.1 q hs; omega, by omega, by omega⟩) (h1.un.rdOwn ht (fun q hq _ => by have := h.new q hq; omega)), h1.un.move htt (fun q hq => ?_) (h1.un.rdOwn htt (fun q hq _ => by have := hT q hq; omega)), (heap_setCell_same w9 pb 1 _ _ _ hp9).trans rfl, ?_, by rw [List.length_append, List.length_singleton, h.len], hnew, h.lt⟩
  · have := hT q hq
    exact ⟨fun hs => by have := hlt.1 q hs; omega, by omega, by omega⟩
  · rw [List.map_append]
    exact own_turned hr ht2 (fun g hg => by have := hnew g hg; omega)
theorem PhSt.phi (h : PhSt w0 br ra rl rc bs w ub rb us ua uc S K pb tq xs aa k ac W) : PhiK (fun q => pb ≤ q) W [.int .i64 tq, .slice aa k ac] ⟨tq, xs⟩ := by
  obtain rfl := h.len
  exact ⟨aa, ac, rfl, h.own, fun q hq => Nat.le_of_lt (h.new q hq), rfl⟩
end

end Go.Proofs.Ytajnldkempeheaa
