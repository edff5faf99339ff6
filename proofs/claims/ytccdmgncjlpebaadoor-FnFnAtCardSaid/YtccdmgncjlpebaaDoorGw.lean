/-
  The reference draws programs: a loop.
-/
import Derived.Test.YtccdmgncjlpebaaDoorGb

namespace Go.Proofs.YtccdmgncjlpebaaDoor
open Go.RowKit
set_option linter.unusedVariables false

theorem leafN (op n : Int) (nm : ByteArray) (hn : nm.size ≤ maxLen) (hop : -9223372036854775808 ≤ op ∧ op ≤ 9223372036854775807) (d : Nat) {S : Nat → Prop} {w : World} : exprK (d + 1) S w [.int .i64 op, .int .i64 n, .string nm, .slice none 0 0] (.mk op n nm []) :=
  ⟨leafP op n nm hop d, by show (decide (maxLen < nm.size) || List.any [] _) = false; rw [decide_eq_false (Nat.not_lt.2 hn)]; rfl⟩
theorem keep_row {T : Nat → Prop} {w8 W w9 : World} {k : Nat} {o : Obj} (ht : Turned T W w9) (hb : Below w8.heap.size w8 W) (h : w8.heap[k]? = some o) (hT : ¬ T k) : w9.heap[k]? = some o :=
  (ht.block k (Nat.lt_of_lt_of_le (Array.getElem?_eq_some_iff.1 h).1 hb.size) hT).trans ((hb.block k (Array.getElem?_eq_some_iff.1 h).1).trans h)
theorem rows_orders (w : World) (lc : List Value) : (∀ A : Obj, RowAt ((w.alloc A).alloc (.cells lc.toArray 57)).drew (some ⟨w.heap.size + 1, 0, none⟩) [lc].flatten) ∧ (∀ A : Obj, RowAt ((w.alloc (.cells lc.toArray 57)).alloc A).drew (some ⟨w.heap.size, 0, none⟩) [lc].flatten) ∧ RowAt (w.alloc (.cells lc.toArray 57)).drew (some ⟨w.heap.size, 0, none⟩) [lc].flatten := by
  rw [show [lc].flatten = lc by simp]
  refine ⟨fun A => ?_, fun A => ?_, ?_⟩
  · have h := rowAt_laidE' (w.alloc A) lc 57
    rw [World.size_alloc] at h
    exact h.later ((Below.refl _ _).drew)
  · exact (rowAt_laidE' w lc 57).later (((Below.refl _ _).alloc (Nat.le_refl _) _).drew)
  · exact (rowAt_laidE' w lc 57).later ((Below.refl _ _).drew)
theorem args_orders {w : World} {cs : List Value} {y : ExprD} (h : exprK 12 (fun k => w.heap.size ≤ k) w cs y) : (∀ B : Obj, ListK 4 (exprK 12) (fun k => w.heap.size ≤ k) ((w.alloc (.cells cs.toArray 54)).alloc B).drew (some ⟨w.heap.size, 0, none⟩) [y]) ∧ (∀ B : Obj, ListK 4 (exprK 12) (fun k => w.heap.size ≤ k) ((w.alloc B).alloc (.cells cs.toArray 54)).drew (some ⟨w.heap.size + 1, 0, none⟩) [y]) := by
  refine ⟨fun B => ?_, fun B => ?_⟩
  · exact ((arg_laid h).mono (exprK_stays 12) (fun k _ h => h.elim id id)).below (exprK_stays 12) (((Below.refl _ _).alloc (Nat.le_refl _) _).drew)
  · have h2 := arg_laid ((exprK_stays 12).below ((Below.refl _ _).alloc (Nat.le_refl _) B) h)
    rw [World.size_alloc] at h2
    exact (h2.mono (exprK_stays 12) (fun k _ h => h.elim id (fun h => by omega))).below (exprK_stays 12) ((Below.refl _ _).drew)
theorem alloc3G (w : World) (P Q R : Obj) : (((w.alloc P).alloc Q).alloc R).heap[w.heap.size]? = some P ∧ (((w.alloc P).alloc Q).alloc R).heap[w.heap.size + 1]? = some Q ∧ (((w.alloc P).alloc Q).alloc R).heap[w.heap.size + 1 + 1]? = some R ∧ Below w.heap.size w (((w.alloc P).alloc Q).alloc R) ∧ (((w.alloc P).alloc Q).alloc R).heap.size = w.heap.size + 3 := by
  have hb : Below ((w.alloc P).alloc Q).heap.size ((w.alloc P).alloc Q) (((w.alloc P).alloc Q).alloc R) := (Below.refl _ _).alloc (Nat.le_refl _) _
  have hr := heap_alloc_new ((w.alloc P).alloc Q) R
  rw [World.size_alloc, World.size_alloc] at hr
  exact ⟨(hb.block _ (by simp; omega)).trans (heap_alloc2_old w P Q), (hb.block _ (by simp)).trans (heap_alloc2_new w P Q), hr, ((((Below.refl _ _).alloc (Nat.le_refl _) _).alloc (by simp) _).alloc (by simp; omega) _), by simp⟩
/-- The step of a loop: the variable less 1. -/
def lessS (s : ByteArray) : StmtD := .mk 2 s [.mk 4 0 ⟨#[]⟩ [.mk 2 0 s [], .mk 1 1 ⟨#[]⟩ []]] [] []
theorem less_laid (w6 : World) (s : ByteArray) (hs : s.size ≤ maxLen) :
    StmtP 1 (fun k => w6.heap.size ≤ k) (((w6.alloc (.cells #[.int .i64 2, .int .i64 0, .string s, .slice none 0 0, .int .i64 1, .int .i64 1, .string ⟨#[]⟩, .slice none 0 0] 54)).alloc (.cells #[.int .i64 4, .int .i64 0, .string ⟨#[]⟩, .slice (some ⟨w6.heap.size, 0, none⟩) 2 2] 54)).alloc (.cells #[.int .i64 2, .string s, .slice (some ⟨w6.heap.size + 1, 0, none⟩) 1 1, .slice none 0 0, .slice none 0 0] 57)) [.int .i64 2, .string s, .slice (some ⟨w6.heap.size + 1, 0, none⟩) 1 1, .slice none 0 0, .slice none 0 0] (lessS s) ∧ (((w6.alloc (.cells #[.int .i64 2, .int .i64 0, .string s, .slice none 0 0, .int .i64 1, .int .i64 1, .string ⟨#[]⟩, .slice none 0 0] 54)).alloc (.cells #[.int .i64 4, .int .i64 0, .string ⟨#[]⟩, .slice (some ⟨w6.heap.size, 0, none⟩) 2 2] 54)).alloc (.cells #[.int .i64 2, .string s, .slice (some ⟨w6.heap.size + 1, 0, none⟩) 1 1, .slice none 0 0, .slice none 0 0] 57)).heap[w6.heap.size + 1 + 1]? = some (.cells #[.int .i64 2, .string s, .slice (some ⟨w6.heap.size + 1, 0, none⟩) 1 1, .slice none 0 0, .slice none 0 0] 57 (0, 0)) ∧ Below w6.heap.size w6 (((w6.alloc (.cells #[.int .i64 2, .int .i64 0, .string s, .slice none 0 0, .int .i64 1, .int .i64 1, .string ⟨#[]⟩, .slice none 0 0] 54)).alloc (.cells #[.int .i64 4, .int .i64 0, .string ⟨#[]⟩, .slice (some ⟨w6.heap.size, 0, none⟩) 2 2] 54)).alloc (.cells #[.int .i64 2, .string s, .slice (some ⟨w6.heap.size + 1, 0, none⟩) 1 1, .slice none 0 0, .slice none 0 0] 57)) ∧ (((w6.alloc (.cells #[.int .i64 2, .int .i64 0, .string s, .slice none 0 0, .int .i64 1, .int .i64 1, .string ⟨#[]⟩, .slice none 0 0] 54)).alloc (.cells #[.int .i64 4, .int .i64 0, .string ⟨#[]⟩, .slice (some ⟨w6.heap.size, 0, none⟩) 2 2] 54)).alloc (.cells #[.int .i64 2, .string s, .slice (some ⟨w6.heap.size + 1, 0, none⟩) 1 1, .slice none 0 0, .slice none 0 0] 57)).heap.size = w6.heap.size + 3 := by
  obtain ⟨h1, h2, h3, hb, hsz⟩ := alloc3G w6 (.cells #[.int .i64 2, .int .i64 0, .string s, .slice none 0 0, .int .i64 1, .int .i64 1, .string ⟨#[]⟩, .slice none 0 0] 54) (.cells #[.int .i64 4, .int .i64 0, .string ⟨#[]⟩, .slice (some ⟨w6.heap.size, 0, none⟩) 2 2] 54) (.cells #[.int .i64 2, .string s, .slice (some ⟨w6.heap.size + 1, 0, none⟩) 1 1, .slice none 0 0, .slice none 0 0] 57)
  generalize ((w6.alloc (.cells #[.int .i64 2, .int .i64 0, .string s, .slice none 0 0, .int .i64 1, .int .i64 1, .string ⟨#[]⟩, .slice none 0 0] 54)).alloc (.cells #[.int .i64 4, .int .i64 0, .string ⟨#[]⟩, .slice (some ⟨w6.heap.size, 0, none⟩) 2 2] 54)).alloc (.cells #[.int .i64 2, .string s, .slice (some ⟨w6.heap.size + 1, 0, none⟩) 1 1, .slice none 0 0, .slice none 0 0] 57) = w7 at h1 h2 h3 hb hsz ⊢
  have htwo := exprK_two (op := 4) (by decide) (S := fun k => w6.heap.size ≤ k) (c := 2) (b := w6.heap.size) (c1 := [.int .i64 2, .int .i64 0, .string s, .slice none 0 0]) (c2 := [.int .i64 1, .int .i64 1, .string ⟨#[]⟩, .slice none 0 0]) h1 (Nat.le_refl _) (leafN 2 0 s hs (by decide) 0) (leafK 1 1 (by decide) 0)
  have hone := ListK.one (exprK_stays 12) (S := fun k => w6.heap.size ≤ k) h2 (by show w6.heap.size ≤ w6.heap.size + 1; omega) (exprK_le (by omega : 2 ≤ 12) htwo)
  exact ⟨stmt_bare hone (by simp) 2 s (by decide) hs, h3, hb, hsz⟩
section
variable {w0 w wb : World} {br bg : Nat} {a : Option Addr} {len cap : Nat} {bs : List Int} {fa : Option Addr} {fc : Nat} {fns : List FnD} {va : Option Addr} {vc : Nat} {vars : List ByteArray} {next left next' left' : Int}
/-- A loop is being made: its first statement, its variable. -/
structure LpA (w0 w wb : World) (br bg : Nat) (a : Option Addr) (len cap : Nat) (bs : List Int) (fa : Option Addr) (fc : Nat) (fns : List FnD) (va : Option Addr) (vc : Nat) (vars : List ByteArray) (next left : Int) (u fb vb : Nat) (s : ByteArray) (b c : Nat) (x : ExprD) (wr : World) : Prop where
  g : GSt w0 br bg a len cap bs fa fc fns u va vc vars next left wr
  t : Turn2 br bg w wr
  lt : br < w.heap.size ∧ bg < w.heap.size ∧ w0.heap.size ≤ w.heap.size ∧ w.heap.size ≤ fb ∧ fb < wb.heap.size ∧ w.heap.size ≤ vb ∧ vb < wb.heap.size
  frow : wr.heap[fb]? = some (.cells #[.int .i64 1, .string s, .slice (some ⟨b, 0, none⟩) 1 c, .slice none 0 0, .slice none 0 0] 57 (0, 0))
  vrow : wr.heap[vb]? = some (.cells #[.int .i64 2, .int .i64 0, .string s, .slice none 0 0] 54 (0, 0))
  first : StmtP 1 (fun k => w.heap.size ≤ k ∧ k < wb.heap.size) wr [.int .i64 1, .string s, .slice (some ⟨b, 0, none⟩) 1 c, .slice none 0 0, .slice none 0 0] (.mk 1 s [x] [] [])
  vlow : ListK 1 strP (fun k => w.heap.size ≤ k ∧ k < wb.heap.size) wr va vars
  flow : ListK 3 (FnP 20) (fun k => k ≠ br ∧ k ≠ bg ∧ k < wb.heap.size) wr fa fns
variable {u u' fb vb : Nat} {s : ByteArray} {b c : Nat} {x : ExprD} {wr w' : World}
theorem LpA.step2 (h : LpA w0 w wb br bg a len cap bs fa fc fns va vc vars next left u fb vb s b c x wr) (ht : Turn2 br bg wr w') (hg : GSt w0 br bg a len cap bs fa fc fns u' va vc vars next' left' w') : LpA w0 w wb br bg a len cap bs fa fc fns va vc vars next' left' u' fb vb s b c x w' := by
  have hl := h.lt
  exact ⟨hg, h.t.trans ht, hl, (ht.block (Array.getElem?_eq_some_iff.1 h.frow).1 (by omega) (by omega)).trans h.frow, (ht.block (Array.getElem?_eq_some_iff.1 h.vrow).1 (by omega) (by omega)).trans h.vrow,
    (stmtP_stays 1).turned (T := fun k => k = br ∨ k = bg ∨ wr.heap.size ≤ k) ht (fun k _ h1 h2 => by omega) h.first, ht.list strP_stays h.vlow (fun k h => by have h : w.heap.size ≤ k ∧ k < wb.heap.size := h; omega), ht.list (fnP_stays 20) h.flow (fun k h => ⟨h.1, h.2.1⟩)⟩
theorem LpA.later (h : LpA w0 w wb br bg a len cap bs fa fc fns va vc vars next left u fb vb s b c x wr) (hb : Below wr.heap.size wr w') : LpA w0 w wb br bg a len cap bs fa fc fns va vc vars next left u fb vb s b c x w' := h.step2 (Turn2.below hb) (h.g.later hb)
theorem LpA.alloc (o : Obj) (h : LpA w0 w wb br bg a len cap bs fa fc fns va vc vars next left u fb vb s b c x wr) : LpA w0 w wb br bg a len cap bs fa fc fns va vc vars next left u fb vb s b c x (wr.alloc o) := h.later ((Below.refl _ _).alloc (Nat.le_refl _) _)
theorem LpA.own (h : LpA w0 w wb br bg a len cap bs fa fc fns va vc vars next left u fb vb s b c x wr) {T : Nat → Prop} (ht : Turned T wr w') (hT : ∀ k, k < wr.heap.size → T k → wb.heap.size ≤ k) : LpA w0 w wb br bg a len cap bs fa fc fns va vc vars next left u fb vb s b c x w' := by
  have hl := h.lt
  have hv := h.vlow.turned strP_stays ht (fun k hk h1 h2 => by have := hT k hk h2; omega)
  have hf := h.flow.turned (fnP_stays 20) ht (fun k hk h1 h2 => by have := hT k hk h2; omega)
  refine ⟨h.g.other ht (fun k hk h1 => by have := hT k hk h1; omega) (hv.mono strP_stays (fun k _ h => by have h : w.heap.size ≤ k ∧ k < wb.heap.size := h; omega)) (hf.mono (fnP_stays 20) (fun k _ h => ⟨h.1, h.2.1⟩)), ?_, hl, (ht.block fb (Array.getElem?_eq_some_iff.1 h.frow).1 (fun e => by have := hT fb (Array.getElem?_eq_some_iff.1 h.frow).1 e; omega)).trans h.frow, (ht.block vb (Array.getElem?_eq_some_iff.1 h.vrow).1 (fun e => by have := hT vb (Array.getElem?_eq_some_iff.1 h.vrow).1 e; omega)).trans h.vrow,
    (stmtP_stays 1).turned ht (fun k hk h1 h2 => by have := hT k hk h2; omega) h.first, hv, hf⟩
  have h1 : Turned (fun k => k = br ∨ k = bg ∨ w.heap.size ≤ k) w wr := h.t
  have h2 := h.t.size
  refine ⟨ht.os.trans h1.os, ht.tape.trans h1.tape, ht.output.trans h1.output, Nat.le_trans h1.size ht.size, fun k hk hn => (ht.block k (by omega) (fun e => by have := hT k (by omega) e; omega)).trans (h1.block k hk hn)⟩
/-- The step is put at the end of the body. -/
theorem LpA.push {d lb : Nat} {ba a9 : Option Addr} {bc c9 : Nat} {xs : List StmtD} {cells : List (List Value)} {lc : List Value} {less : StmtD} {W w9 : World} (h : LpA w0 w wb br bg a len cap bs fa fc fns va vc vars next left u fb vb s b c x wr) (hb : Below wr.heap.size wr W)
    (hr : RowsK 5 (StmtP d) 57 (fun k => wb.heap.size ≤ k) wb.heap.size wr ba xs.length bc xs cells) (hd : 1 ≤ d) (hl : StmtP 1 (fun k => lb ≤ k) wr lc less) (ho : ∀ k, (Value.slice ba xs.length bc).ownBlock = some k → wb.heap.size ≤ k ∧ k < lb) (hlb : wb.heap.size ≤ lb)
    (hown : w9.ownsRow wb.heap.size 57 5 (.slice a9 (xs.length + 1) c9) (xs.length + 1) (cells.flatten ++ [lc].flatten)) (hg : W.grownBy w9 (Value.slice ba xs.length bc).ownBlock)
    (hlies : (Value.slice a9 (xs.length + 1) c9).ownBlock = (Value.slice ba xs.length bc).ownBlock ∨ (Value.slice a9 (xs.length + 1) c9).ownBlock = some W.heap.size) :
    LpA w0 w wb br bg a len cap bs fa fc fns va vc vars next left u fb vb s b c x w9 ∧ ListK 5 (StmtP d) (fun k => w.heap.size ≤ k) w9 a9 (xs ++ [less]) ∧ Turned (fun k => (Value.slice ba xs.length bc).ownBlock = some k) W w9 ∧ posOf w9 br = posOf wr br := by
  have ht := turned_of_grown hg (S := fun k => (Value.slice ba xs.length bc).ownBlock = some k) (fun k hk => hk)
  have hlt := h.lt
  refine ⟨(h.later hb).own ht (fun k _ hk => (ho k hk).1), ?_, ht, by
    have hl1 := h.g.lts.1
    have hs1 := hb.size
    have hlt2 := h.lt
    rw [posOf_turned ht (by omega) (fun e => by have := (ho br e).1; omega), posOf_below hb hl1]⟩
  have hk := RowsK.pushes (stmtP_stays d) (hr.below (stmtP_stays d) hb) rfl (cls := [lc]) (ys := [less]) rfl (by intro cl hcl; simp at hcl; subst hcl; exact stmtP_len hl) (fun i cl y h1 h2 => by
    match i with
    | 0 =>
      cases h1; cases h2
      exact (stmtP_stays d).mono (fun k _ hk => ⟨Nat.le_trans hlb hk, fun e => by have := (ho k e).2; have hk : lb ≤ k := hk; omega⟩) (stmtP_le hd ((stmtP_stays 1).below hb hl))
    | i + 1 => cases h1) hown hg hlies
  exact (hk.list (stmtP_stays d)).mono (stmtP_stays d) (fun k _ h => by rcases h with h | h <;> (have h : wb.heap.size ≤ k := h; omega))
theorem LpA.laid {d ab n : Nat} {a9 : Option Addr} {c9 : Nat} {ys : List StmtD} {i : ExprD} (h : LpA w0 w wb br bg a len cap bs fa fc fns va vc vars next left u fb vb s b c x wr) (hd : 1 ≤ d) (ha : ListK 4 (exprK 12) (fun k => w.heap.size ≤ k) wr (some ⟨ab, 0, none⟩) [i]) (hy : ListK 5 (StmtP d) (fun k => w.heap.size ≤ k) wr a9 ys) (hl : ys.length ≤ 9) (hn : ys.length = n) :
    ListK 5 (StmtP (d + 1)) (fun k => w.heap.size ≤ k) (wr.alloc (.cells #[.int .i64 1, .string s, .slice (some ⟨b, 0, none⟩) 1 c, .slice none 0 0, .slice none 0 0, .int .i64 6, .string ⟨#[]⟩, .slice (some ⟨ab, 0, none⟩) 1 1, .slice a9 n c9, .slice none 0 0] 57)) (some ⟨wr.heap.size, 0, none⟩) [.mk 1 s [x] [] [], .mk 6 ⟨#[]⟩ [i] ys []] := by
  subst hn
  have hba : Below wr.heap.size wr (wr.alloc (.cells #[.int .i64 1, .string s, .slice (some ⟨b, 0, none⟩) 1 c, .slice none 0 0, .slice none 0 0, .int .i64 6, .string ⟨#[]⟩, .slice (some ⟨ab, 0, none⟩) 1 1, .slice a9 ys.length c9, .slice none 0 0] 57)) := (Below.refl _ _).alloc (Nat.le_refl _) _
  have hs := h.t.size
  have h1 := (stmtP_stays (d + 1)).below hba (stmtP_le (by omega : 1 ≤ d + 1) ((stmtP_stays 1).mono (S' := fun k => w.heap.size ≤ k) (fun k _ h => h.1) h.first))
  have h2 : StmtP (d + 1) (fun k => w.heap.size ≤ k) wr [.int .i64 6, .string ⟨#[]⟩, .slice (some ⟨ab, 0, none⟩) 1 1, .slice a9 ys.length c9, .slice none 0 0] (.mk 6 ⟨#[]⟩ [i] ys []) :=
    ⟨_, _, _, _, none, 0, rfl, ⟨Nat.zero_le _, (by decide : (-9223372036854775808 : Int) ≤ 6), (by decide : (6 : Int) ≤ 9223372036854775807), (by decide : (1 : Nat) ≤ 100), Nat.le_trans hl (by decide), (by decide : (0 : Nat) ≤ 100)⟩, ha, hy, ListK.nil _ _ _⟩
  have h2 := (stmtP_stays (d + 1)).below hba h2
  exact ListK.laid (cells := [[.int .i64 1, .string s, .slice (some ⟨b, 0, none⟩) 1 c, .slice none 0 0, .slice none 0 0], [.int .i64 6, .string ⟨#[]⟩, .slice (some ⟨ab, 0, none⟩) 1 1, .slice a9 ys.length c9, .slice none 0 0]]) (heap_alloc_new wr _) hs rfl (by intro cl hcl; simp at hcl; rcases hcl with rfl | rfl <;> rfl) (fun i cl y k1 k2 => by
    match i with
    | 0 => cases k1; cases k2; exact h1
    | 1 => cases k1; cases k2; exact h2
    | i + 2 => cases k1)
end

section
variable {w0 : World} {br bg : Nat} {a : Option Addr} {len cap : Nat} {bs : List Int} {fa : Option Addr} {fc : Nat} {fns : List FnD}
set_option maxRecDepth 100000 in
set_option maxHeartbeats 8000000 in
theorem gloop_any (hlen : len ≤ 2000) (dq : Int) (hdq : 2 ≤ dq ∧ dq ≤ 3) (d cB : Nat) (hd : 1 ≤ d) (F : GS → List StmtD × GS) (hB : BlockC w0 br bg a len cap bs fa fc fns (dq - 1) d cB F) : LoopC w0 br bg a len cap bs fa fc fns dq (d + 1) (cB + 600) (loopF bs F) := by
  intro u va vc vars next left w h hv hu
  have HU := Lib.hid hu
  have HVC := Lib.hid hv
  have HB := Lib.hid hB
  have HL := Lib.hid (show br < w.heap.size ∧ bg < w.heap.size ∧ w0.heap.size ≤ w.heap.size from ⟨h.lts.1, h.lts.2, by obtain ⟨p, _, hp⟩ := h.rd; exact hp.below.size⟩)
  have H0 := Lib.hid h
  have c0 := h.c0
  have hwd : wrap64 (dq - 1) = dq - 1 := IntWalk.wrap64_in _ (by omega)
  obtain ⟨p, hp, hrd⟩ := h.rd
  have HP := Lib.hid hp
  have HNUM := Lib.hid (show Calls Tryd.prog 28 #[.pointer (some ⟨br, 0, none⟩), .slice (some ⟨w.heap.size, 0, none⟩) 5 5] (w.alloc (.cells #[.int .i64 2, .int .i64 3, .int .i64 1, .int .i64 0, .int .i64 5] 3)) fun e W' => ∃ v : Int, e = .returned (.int .i64 v) ∧ Hid (GSt w0 br bg a len cap bs fa fc fns (u + 1) va vc vars next left W' ∧ Turn2 br bg w W' ∧ numF bs [2, 3, 1, 0, 5] (posOf w br) = v ∧ posOf W' br = posOf w br + 1) from by
    refine (num_fun w0 _ br a len cap bs p w.heap.size 5 5 [2, 3, 1, 0, 5] (hrd.later' ((Below.refl _ _).alloc (Nat.le_refl _) _)) (litI w [2, 3, 1, 0, 5]) (by have := HL.out; omega) (by omega) hlen (by have := HP.out; have := HU.out; omega)).mono ?_
    rintro e W' ⟨v, hv, rfl, hrd', hg', hFv⟩
    exact ⟨v, rfl, Lib.hid ⟨(H0.out.alloc _).step (TurnR.grown hg') hrd' (by have := HP.out; omega) (by omega), (Turn2.alloc w _).trans (Turn2.of (TurnR.grown hg')), by rw [hrd.pos]; exact hFv, by rw [hrd.pos, hrd'.pos]⟩⟩)
  clear hv hu hB h hp hrd
  go_enter Tryd.func67, Tryd.ntmps67
  go_wp2_with fail
  refine HNUM.out.mono ?_
  rintro e w3 ⟨v, rfl, hx3⟩
  clear c0 HNUM
  have HLET := Lib.hid (glet_any hlen (u + 1) (fun k => w.heap.size ≤ k) w3 none 0 (.mk 1 v ⟨#[]⟩ []) hx3.out.1 HVC.out (by have := HU.out; omega) (fun k hk => by have := HL.out; have hk : w.heap.size ≤ k := hk; omega) (leafK 1 v (by decide) 11))
  go_upto_region 3 with (go_at_call 65; refine HLET.out.mono ?_; rintro e w4 ⟨s, b, c, va', vc', n', rfl, hst, hg4, hv4, hvn4, ht4, hn4, hF4⟩)
  have HF4 := Lib.hid (And.intro hn4 hF4)
  have HP5 := Lib.hid (show posOf ((w4.alloc (.cells #[.int .i64 1, .string s, .slice (some ⟨b, 0, none⟩) 1 c, .slice none 0 0, .slice none 0 0] 57)).alloc (.cells #[.int .i64 2, .int .i64 0, .string s, .slice none 0 0] 54)) br = posOf w4 br from posOf_alloc2 hg4.lts.1)
  clear hn4 hF4
  have HSZ := Lib.hid (show s.size ≤ maxLen from by obtain ⟨_, _, _, _, _, _, _, h, _⟩ := hst; exact h.1)
  have HV4 := Lib.hid hv4
  have HA := Lib.hid (show LpA w0 w ((w4.alloc (.cells #[.int .i64 1, .string s, .slice (some ⟨b, 0, none⟩) 1 c, .slice none 0 0, .slice none 0 0] 57)).alloc (.cells #[.int .i64 2, .int .i64 0, .string s, .slice none 0 0] 54)) br bg a len cap bs fa fc fns va' vc' (vars ++ [s]) n' left (u + 1 + 4) w4.heap.size (w4.heap.size + 1) s b c (.mk 1 v ⟨#[]⟩ []) ((w4.alloc (.cells #[.int .i64 1, .string s, .slice (some ⟨b, 0, none⟩) 1 c, .slice none 0 0, .slice none 0 0] 57)).alloc (.cells #[.int .i64 2, .int .i64 0, .string s, .slice none 0 0] 54)) from by
    have hsz : ((w4.alloc (.cells #[.int .i64 1, .string s, .slice (some ⟨b, 0, none⟩) 1 c, .slice none 0 0, .slice none 0 0] 57)).alloc (.cells #[.int .i64 2, .int .i64 0, .string s, .slice none 0 0] 54)).heap.size = w4.heap.size + 2 := by simp
    have h3 := hx3.out.2.1.size
    have h4 := ht4.size
    have hba : Below w4.heap.size w4 ((w4.alloc (.cells #[.int .i64 1, .string s, .slice (some ⟨b, 0, none⟩) 1 c, .slice none 0 0, .slice none 0 0] 57)).alloc (.cells #[.int .i64 2, .int .i64 0, .string s, .slice none 0 0] 54)) := ((Below.refl _ _).alloc (Nat.le_refl _) _).alloc (by simp) _
    have hl := HL.out
    refine ⟨hg4.later hba, (hx3.out.2.1.trans ht4).trans (Turn2.below hba), ⟨hl.1, hl.2.1, hl.2.2, by omega, by omega, by omega, by omega⟩, heap_alloc2_old w4 _ _, heap_alloc2_new w4 _ _, (stmtP_stays 1).below hba ((stmtP_stays 1).mono (fun k hk h => ⟨by rcases h with h | h; exact h; exact Nat.le_trans h3 h, by omega⟩) hst), ?_, ?_⟩
    · exact ((hvn4.here strP_stays).mono strP_stays (fun k _ h => ⟨by have := h.1; omega, by have := h.2; omega⟩)).below strP_stays hba
    · exact ((hg4.flist.here (fnP_stays 20)).mono (fnP_stays 20) (fun k _ h => ⟨h.1.1, h.1.2, by have := h.2; omega⟩)).below (fnP_stays 20) hba)
  clear hst hg4 hv4 hvn4 HLET
  have H4Z := Lib.hid (show w.heap.size ≤ w4.heap.size from Nat.le_trans hx3.out.2.1.size ht4.size)
  clear ht4
  obtain ⟨fb, hfb⟩ : ∃ n, n = w4.heap.size := ⟨_, rfl⟩
  generalize (w4.alloc (.cells #[.int .i64 1, .string s, .slice (some ⟨b, 0, none⟩) 1 c, .slice none 0 0, .slice none 0 0] 57)).alloc (.cells #[.int .i64 2, .int .i64 0, .string s, .slice none 0 0] 54) = w5 at HA HP5 ⊢
  rw [← hfb] at HA ⊢
  clear hfb
  go_wp2_with fail
  refine (HB.out (u + 1 + 4) va' vc' (vars ++ [s]) n' left w5 HA.out.g HV4.out (by have := HU.out; omega)).mono ?_
  rintro e w6 ⟨ba, bc, xs, next6, left6, rfl, hl6, hgk6, hg6, ht6, hF6⟩
  have HF6 := Lib.hid hF6
  clear hF6
  have HA6 := Lib.hid (HA.out.step2 ht6 hg6)
  have HK6 := Lib.hid (And.intro hgk6 hl6)
  have HSZ6 := Lib.hid ht6.size
  clear hgk6 hg6 ht6 hl6
  go_upto_region 4 with fail
  have f1 := cell_of_row _ _ 1 _ _ _ HA6.out.frow
  have v0 := cell_of_row _ _ 0 _ _ _ HA6.out.vrow
  have v1 := cell_of_row _ _ 1 _ _ _ HA6.out.vrow
  have v2 := cell_of_row _ _ 2 _ _ _ HA6.out.vrow
  have v3 := cell_of_row _ _ 3 _ _ _ HA6.out.vrow
  simp only [List.getElem?_toArray, List.getElem?_cons_zero, List.getElem?_cons_succ] at f1 v0 v1 v2 v3
  have HLS := Lib.hid (less_laid w6 s HSZ.out)
  go_upto_region 5 with fail
  obtain ⟨lb, hlb⟩ : ∃ n, n = w6.heap.size := ⟨_, rfl⟩
  generalize ((w6.alloc (.cells #[.int .i64 2, .int .i64 0, .string s, .slice none 0 0, .int .i64 1, .int .i64 1, .string ⟨#[]⟩, .slice none 0 0] 54)).alloc (.cells #[.int .i64 4, .int .i64 0, .string ⟨#[]⟩, .slice (some ⟨w6.heap.size, 0, none⟩) 2 2] 54)).alloc (.cells #[.int .i64 2, .string s, .slice (some ⟨w6.heap.size + 1, 0, none⟩) 1 1, .slice none 0 0, .slice none 0 0] 57) = w7 at HLS ⊢
  have HA7 := Lib.hid (HA6.out.later HLS.out.2.2.1)
  have HP7 := Lib.hid (show posOf w7 br = posOf w6 br from posOf_below HLS.out.2.2.1 HA6.out.g.lts.1)
  have HK7 := Lib.hid (HK6.out.1.below (stmtP_stays d) HLS.out.2.2.1)
  have HOWN := Lib.hid (show ∀ k, (Value.slice ba xs.length bc).ownBlock = some k → w5.heap.size ≤ k ∧ k < w6.heap.size from by
    obtain ⟨cells, k1, -⟩ := HK6.out.1.row
    exact fun k hk => k1.lt k hk)
  have HLB := Lib.hid (show w5.heap.size ≤ lb from by rw [hlb]; have := HK6.out.1; exact HSZ6.out)
  rw [← hlb] at HLS HOWN ⊢
  clear hlb f1 v0 v1 v2 v3
  have c4 := HA7.out.g.c4
  have f4 := HA7.out.g.f 4
  have hlw : wrap64 (left6 - 2) = left6 - 2 := IntWalk.wrap64_in _ (by have := HA7.out.g.bnd; have := HU.out; omega)
  have HSL := Lib.hid ((HA7.out.g.more (show u + 1 + 4 + cB ≤ u + 1 + 4 + cB + 1 by omega)).setLeft (n' := left6 - 2) (by have := HA7.out.g.bnd; omega))
  go_upto_region 6 with fail
  clear c4 f4 hlw
  have HA8 := Lib.hid (HA7.out.step2 HSL.out.2 HSL.out.1)
  have HK8 := Lib.hid (HK7.out.keep (stmtP_stays d) (T := fun k => k = bg) (turned_store w7 bg 4 (.int .i64 (left6 - 2))) (fun k h1 h2 h3 => by have := HA7.out.lt; have h3 : k = bg := h3; omega) (fun k h => h))
  have HS8 := Lib.hid (show StmtP 1 (fun k => lb ≤ k) (w7.setCell ⟨bg, 4, none⟩ (.int .i64 (left6 - 2))) [.int .i64 2, .string s, .slice (some ⟨lb + 1, 0, none⟩) 1 1, .slice none 0 0, .slice none 0 0] (lessS s) ∧ (w7.setCell ⟨bg, 4, none⟩ (.int .i64 (left6 - 2))).heap[lb + 1 + 1]? = some (.cells #[.int .i64 2, .string s, .slice (some ⟨lb + 1, 0, none⟩) 1 1, .slice none 0 0, .slice none 0 0] 57 (0, 0)) from by
    have ht := turned_store w7 bg 4 (.int .i64 (left6 - 2))
    have hne : ∀ k, lb ≤ k → ¬ k = bg := fun k hk => by have := HLB.out; have := HA7.out.lt; omega
    exact ⟨(stmtP_stays 1).turned ht (fun k _ h1 => hne k h1) HLS.out.1, (ht.block _ (Array.getElem?_eq_some_iff.1 HLS.out.2.1).1 (hne _ (by omega))).trans HLS.out.2.1⟩)
  have HP8 := Lib.hid (show posOf (w7.setCell ⟨bg, 4, none⟩ (.int .i64 (left6 - 2))) br = posOf w6 br by rw [posOf_set (by have := HA7.out.g.base; omega), HP7.out])
  clear HSL HLS HK7
  generalize w7.setCell ⟨bg, 4, none⟩ (.int .i64 (left6 - 2)) = w8 at HA8 HK8 HS8 HP8 ⊢
  have HSC := Lib.hid (show ∀ w9 W, w9.heap[fb]? = some (.cells #[.int .i64 1, .string s, .slice (some ⟨b, 0, none⟩) 1 c, .slice none 0 0, .slice none 0 0] 57 (0, 0)) → w9.heap[fb + 1]? = some (.cells #[.int .i64 2, .int .i64 0, .string s, .slice none 0 0] 54 (0, 0)) → w9.heap[lb + 1 + 1]? = some (.cells #[.int .i64 2, .string s, .slice (some ⟨lb + 1, 0, none⟩) 1 1, .slice none 0 0, .slice none 0 0] 57 (0, 0)) → Below w9.heap.size w9 W → (W.cell? ⟨fb, 0, none⟩ = some (.int .i64 1) ∧ W.cell? ⟨fb, 1, none⟩ = some (.string s) ∧ W.cell? ⟨fb, 2, none⟩ = some (.slice (some ⟨b, 0, none⟩) 1 c) ∧ W.cell? ⟨fb, 3, none⟩ = some (.slice none 0 0) ∧ W.cell? ⟨fb, 4, none⟩ = some (.slice none 0 0) ∧ W.cell? ⟨fb + 1, 0, none⟩ = some (.int .i64 2) ∧ W.cell? ⟨fb + 1, 1, none⟩ = some (.int .i64 0) ∧ W.cell? ⟨fb + 1, 2, none⟩ = some (.string s) ∧ W.cell? ⟨fb + 1, 3, none⟩ = some (.slice none 0 0) ∧ W.cell? ⟨lb + 1 + 1, 0, none⟩ = some (.int .i64 2) ∧ W.cell? ⟨lb + 1 + 1, 1, none⟩ = some (.string s) ∧ W.cell? ⟨lb + 1 + 1, 2, none⟩ = some (.slice (some ⟨lb + 1, 0, none⟩) 1 1) ∧ W.cell? ⟨lb + 1 + 1, 3, none⟩ = some (.slice none 0 0) ∧ W.cell? ⟨lb + 1 + 1, 4, none⟩ = some (.slice none 0 0)) from fun w9 W f v l hW =>
    ⟨cell_later hW (cell_of_row _ _ 0 _ _ _ f), cell_later hW (cell_of_row _ _ 1 _ _ _ f), cell_later hW (cell_of_row _ _ 2 _ _ _ f), cell_later hW (cell_of_row _ _ 3 _ _ _ f), cell_later hW (cell_of_row _ _ 4 _ _ _ f), cell_later hW (cell_of_row _ _ 0 _ _ _ v), cell_later hW (cell_of_row _ _ 1 _ _ _ v), cell_later hW (cell_of_row _ _ 2 _ _ _ v), cell_later hW (cell_of_row _ _ 3 _ _ _ v), cell_later hW (cell_of_row _ _ 0 _ _ _ l), cell_later hW (cell_of_row _ _ 1 _ _ _ l), cell_later hW (cell_of_row _ _ 2 _ _ _ l), cell_later hW (cell_of_row _ _ 3 _ _ _ l), cell_later hW (cell_of_row _ _ 4 _ _ _ l)⟩)
  obtain ⟨cells, hrows⟩ := HK8.out.rows
  have HR8 := Lib.hid hrows
  clear hrows
  have HONE := Lib.hid (show ∀ cl ∈ [[Value.int .i64 2, .string s, .slice (some ⟨lb + 1, 0, none⟩) 1 1, .slice none 0 0, .slice none 0 0]], ∀ u ∈ cl, u.oneCell' = true from fun cl hcl u hu => by
    rw [List.mem_singleton.1 hcl] at hu
    exact stmt_oneCell HS8.out.1 u hu)
  have HXB := Lib.hid (show xs.length + 1 ≤ 1099511627776 from by have := HK6.out.2; omega)
  have HLZ := Lib.hid (show w5.heap.size ≤ w8.heap.size from Nat.le_trans HLB.out (by have := (Array.getElem?_eq_some_iff.1 HS8.out.2).1; omega))
  have HAR := Lib.hid (args_orders (w := w8) (leafN 2 0 s HSZ.out (by decide) 11))
  have HLB8 := Lib.hid (show lb ≤ w8.heap.size from by have := (Array.getElem?_eq_some_iff.1 HS8.out.2).1; omega)
  have HIE := Lib.hid (fun (W : World) => arg_laid (S := fun k => w.heap.size ≤ k) (w := W) (leafN 2 0 s HSZ.out (by decide) 11))
  have HWB := Lib.hid (show w.heap.size ≤ w8.heap.size from HA8.out.t.size)
  have HVK := Lib.hid (fun (W : World) (hW : LpA w0 w w5 br bg a len cap bs fa fc fns va' vc' (vars ++ [s]) next6 (left6 - 2) (u + 1 + 4 + cB + 1) fb (fb + 1) s b c (.mk 1 v ⟨#[]⟩ []) W) => show VKeep br bg w va vars W va' (vars ++ [s]) from VKeep.new (hW.vlow.mono strP_stays (fun k _ h => h.1)) ⟨hW.lt.1, hW.lt.2.1⟩)
  have HROW0 := Lib.hid (rows_orders w8 [.int .i64 2, .string s, .slice (some ⟨lb + 1, 0, none⟩) 1 1, .slice none 0 0, .slice none 0 0])
  have HEND := Lib.hid (And.intro trivial (And.intro HV4.out HK6.out.2))
  have HFL := Lib.hid (show loopF bs F ⟨posOf w br, vars, next, left⟩ = ([.mk 1 s [.mk 1 v ⟨#[]⟩ []] [] [], .mk 6 ⟨#[]⟩ [.mk 2 0 s []] (xs ++ [lessS s]) []], ⟨posOf w8 br, vars ++ [s], next6, left6 - 2⟩) by
    have h4 := HF4.out.2
    rw [hx3.out.2.2.2] at h4
    have h6 := HF6.out
    rw [HP5.out, HF4.out.1] at h6
    simp only [loopF, letF, hx3.out.2.2.1, h4, h6, HP8.out]
    rfl)
  clear HF4 HF6 HP5 HP7 HP8
  clear HK6 HA7 HA6 HA HSZ6 HSZ HV4 H4Z H0 HP HB HU HVC HK8 hwd hdq hlen
  go_region_held3 (fun W => (W.cell? ⟨fb, 0, none⟩ = some (.int .i64 1) ∧ W.cell? ⟨fb, 1, none⟩ = some (.string s) ∧ W.cell? ⟨fb, 2, none⟩ = some (.slice (some ⟨b, 0, none⟩) 1 c) ∧ W.cell? ⟨fb, 3, none⟩ = some (.slice none 0 0) ∧ W.cell? ⟨fb, 4, none⟩ = some (.slice none 0 0) ∧ W.cell? ⟨fb + 1, 0, none⟩ = some (.int .i64 2) ∧ W.cell? ⟨fb + 1, 1, none⟩ = some (.int .i64 0) ∧ W.cell? ⟨fb + 1, 2, none⟩ = some (.string s) ∧ W.cell? ⟨fb + 1, 3, none⟩ = some (.slice none 0 0) ∧ W.cell? ⟨lb + 1 + 1, 0, none⟩ = some (.int .i64 2) ∧ W.cell? ⟨lb + 1 + 1, 1, none⟩ = some (.string s) ∧ W.cell? ⟨lb + 1 + 1, 2, none⟩ = some (.slice (some ⟨lb + 1, 0, none⟩) 1 1) ∧ W.cell? ⟨lb + 1 + 1, 3, none⟩ = some (.slice none 0 0) ∧ W.cell? ⟨lb + 1 + 1, 4, none⟩ = some (.slice none 0 0))) (first | exact HSC.out _ _ HP9.out.1.frow HP9.out.1.vrow HL9.out (by repeat (first | exact Below.refl _ _ | apply later_drew | apply later_alloc)) | exact HSC.out _ _ HA8.out.frow HA8.out.vrow HS8.out.2 (by repeat (first | exact Below.refl _ _ | apply later_drew | apply later_alloc))) (first | (refine step_app_stmts rfl (.tmp 44) (.tmp 46) rfl w5.heap.size _ xs.length _ rfl (ownsRow_below HR8.out.1 (by repeat (first | exact Below.refl _ _ | apply later_drew | apply later_alloc))) _ 1 1 [[.int .i64 2, .string s, .slice (some ⟨lb + 1, 0, none⟩) 1 1, .slice none 0 0, .slice none 0 0]] rfl (by first | exact HROW0.out.1 _ | exact HROW0.out.2.1 _ | exact HROW0.out.2.2) rfl (by simp) (by rintro ⟨⟩) HONE.out HXB.out (by have := HLZ.out; first | (simp; omega) | omega) ?_; intro a9 c9 w9 hown9 hg9 hlies9; (have HP9 := Lib.hid (HA8.out.push (by repeat (first | exact Below.refl _ _ | apply later_drew | apply later_alloc)) HR8.out hd HS8.out.1 HOWN.out HLB.out hown9 hg9 hlies9)); (have HL9 := Lib.hid (keep_row HP9.out.2.2.1 (by repeat (first | exact Below.refl _ _ | apply later_drew | apply later_alloc)) HS8.out.2 (fun e => by have := (HOWN.out _ e).2; omega)))))
  all_goals
    have HLEN := Lib.hid (show (xs ++ [lessS s]).length ≤ 9 ∧ (xs ++ [lessS s]).length = xs.length + 1 from ⟨by have := HEND.out.2.2; simp; omega, by simp⟩)
    have HOR := Lib.hid (fun k (h1 : w8.heap.size ≤ k) (h2 : (Value.slice ba xs.length bc).ownBlock = some k) => show False from by have := (HOWN.out k h2).2; have := HLB8.out; omega)
    go_wp2
    go_ret
    first
    | exact ⟨_, _, [_, _], va', vc', vars ++ [s], next6, left6 - 2, rfl, by simp, (by rintro ⟨⟩), HP9.out.1.laid hd (((HAR.out.1 _).turned (exprK_stays 12) HP9.out.2.2.1 (fun k _ h1 h2 => HOR.out k h1 h2)).mono (exprK_stays 12) (fun k _ h => Nat.le_trans HWB.out h)) HP9.out.2.1 HLEN.out.1 HLEN.out.2, (HP9.out.1.g.alloc _).more (by omega), HEND.out.2.1, HVK.out _ (HP9.out.1.alloc _), (HP9.out.1.alloc _).t, by rw [posOf_alloc HP9.out.1.g.lts.1, HP9.out.2.2.2]; exact HFL.out⟩
    | exact ⟨_, _, [_, _], va', vc', vars ++ [s], next6, left6 - 2, rfl, by simp, (by rintro ⟨⟩), HP9.out.1.laid hd (((HAR.out.2 _).turned (exprK_stays 12) HP9.out.2.2.1 (fun k _ h1 h2 => HOR.out k h1 h2)).mono (exprK_stays 12) (fun k _ h => Nat.le_trans HWB.out h)) HP9.out.2.1 HLEN.out.1 HLEN.out.2, (HP9.out.1.g.alloc _).more (by omega), HEND.out.2.1, HVK.out _ (HP9.out.1.alloc _), (HP9.out.1.alloc _).t, by rw [posOf_alloc HP9.out.1.g.lts.1, HP9.out.2.2.2]; exact HFL.out⟩
    | exact ⟨_, _, [_, _], va', vc', vars ++ [s], next6, left6 - 2, rfl, by simp, (by rintro ⟨⟩), (by have hq := LpA.laid (c9 := c9) (HP9.out.1.alloc (.cells #[.int .i64 2, .int .i64 0, .string s, .slice none 0 0] 54)) hd ((HIE.out w9).mono (exprK_stays 12) (fun k _ h => by have := HP9.out.1.t.size; rcases h with h | h; exact h; exact Nat.le_trans this h)) (HP9.out.2.1.below (stmtP_stays d) ((Below.refl _ _).alloc (Nat.le_refl _) _)) HLEN.out.1 HLEN.out.2; rw [World.size_alloc] at hq; exact hq), ((HP9.out.1.alloc _).g.alloc _).more (by omega), HEND.out.2.1, HVK.out _ ((HP9.out.1.alloc _).alloc _), ((HP9.out.1.alloc _).alloc _).t, by rw [posOf_alloc2 HP9.out.1.g.lts.1, HP9.out.2.2.2]; exact HFL.out⟩
end

end Go.Proofs.YtccdmgncjlpebaaDoor
