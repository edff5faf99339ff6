/-
  The reference draws programs: a variable is laid (let).
-/
import Derived.Test.YtccdmgncjlpebaaDoorGc
import Derived.Test.YtccdmgncjlpebaaDoorNv2

namespace Go.Proofs.YtccdmgncjlpebaaDoor
open Go.RowKit
set_option linter.unusedVariables false

theorem app_strs {w : World} {ops : Array Oper} {rest : List Oper} {o : Oper} {a : Act} {Q : Exit → Act → World → Prop} (hgd : o.guard = none) (s x : Operand) (ho : o.op = .call { callee := .builtin .append, args := #[s, x], argTypes := #[29, 29] })
    (base : Nat) (v : Value) (n : Nat) (xs : List Value) (hs : a.eval s = v) (hown : w.ownsRow base 9 1 v n xs)
    (ao : Option Addr) (m c : Nat) (ys : List ByteArray) (hx : a.eval x = .slice ao m c) (hl : ys.length = m) (hrow : RowAt w ao (ys.map Value.string)) (hnil : ao = none → c = 0)
    (hb : n + m ≤ 1099511627776) (hbase : base ≤ w.heap.size)
    (h : ∀ a' c' w', w'.ownsRow base 9 1 (.slice a' (n + m) c') (n + m) (xs ++ ys.map Value.string) → w.grownBy w' v.ownBlock →
      ((Value.slice a' (n + m) c').ownBlock = v.ownBlock ∨ (Value.slice a' (n + m) c').ownBlock = some w.heap.size) → wpList Tryd.prog ops Q rest (a.put o.dst (.slice a' (n + m) c')) w') : wpList Tryd.prog ops Q (o :: rest) a w := by
  obtain ⟨i0, hi, hz0, hz1, hz2⟩ := info_parts info_strN
  exact wpList_append_any hgd s x 29 ho base 9 i0 (.string ByteArray.empty) 1 16 und_strsN hi hz0 hz1 hz2 rfl (by decide) v n xs hs hown ao m c _ hx (by simp [hl]) hrow hnil (by intro u hu; obtain ⟨x, _, rfl⟩ := List.mem_map.1 hu; rfl) (by unfold maxLen; omega) (by omega) hbase h

theorem setCells5 (w : World) (g : Nat) (v0 v1 v2 v3 v4 : Value) : w.setCells g 0 [v0, v1, v2, v3, v4] = ((((w.setCell ⟨g, 0, none⟩ v0).setCell ⟨g, 1, none⟩ v1).setCell ⟨g, 2, none⟩ v2).setCell ⟨g, 3, none⟩ v3).setCell ⟨g, 4, none⟩ v4 := rfl
theorem own_strs {S : Nat → Prop} {lo n c : Nat} {w : World} {a : Option Addr} {xs : List ByteArray} (hown : w.ownsRow lo 9 1 (.slice a n c) n (xs.map Value.string)) (hl : xs.length = n) (hx : ∀ s ∈ xs, s.size ≤ maxLen) (hS : ∀ k, lo ≤ k → S k) : ListK 1 strP S w a xs := by
  have hf : ∀ ys : List ByteArray, (ys.map fun s => [Value.string s]).flatten = ys.map Value.string := fun ys => by
    induction ys with
    | nil => rfl
    | cons y ys ih => rw [List.map_cons, List.flatten_cons, ih]; rfl
  have hg : GrowK 1 strP 9 (fun _ => False) lo w a n c xs := ⟨⟨xs.map fun s => [Value.string s], by rw [hf]; exact hown, by simpa using hl, by intro c hc; obtain ⟨s, _, rfl⟩ := List.mem_map.1 hc; rfl, fun i cl x hc hx' => by
    rw [List.getElem?_map] at hc
    rw [hx'] at hc
    cases hc
    exact ⟨rfl, hx _ (List.mem_of_getElem? hx')⟩⟩, hl⟩
  exact (hg.list strP_stays).mono strP_stays (fun k _ h => hS k (h.resolve_left id))

section
variable {S : Nat → Prop} {w0 w : World} {br bg : Nat} {a : Option Addr} {len cap : Nat} {bs : List Int} {fa : Option Addr} {fc : Nat} {fns : List FnD} {va va' : Option Addr} {vc vc' : Nat} {vars vars' : List ByteArray} {next left next' left' : Int}
/-- A variable is being laid. -/
structure LSt (S : Nat → Prop) (w0 w : World) (br bg : Nat) (a : Option Addr) (len cap : Nat) (bs : List Int) (fa : Option Addr) (fc : Nat) (fns : List FnD) (va : Option Addr) (vc : Nat) (vars : List ByteArray) (next left : Int) (cs : List Value) (x : ExprD) (u : Nat) (wr : World) : Prop where
  g : GSt w0 br bg a len cap bs fa fc fns u va vc vars next left wr
  t : Turn2 br bg w wr
  lt : br < w.heap.size ∧ bg < w.heap.size ∧ w0.heap.size ≤ w.heap.size
  brow : wr.heap[w.heap.size]? = some (.cells cs.toArray 54 (0, 0))
  rrow : wr.heap[w.heap.size + 1]? = some (.cells #[.int .i64 0, .string ⟨#[]⟩, .slice none 0 0, .slice none 0 0, .slice none 0 0] 57 (0, 0))
  ex : exprK 12 (fun k => S k ∧ k < w.heap.size) wr cs x
  vlow : ListK 1 strP (fun k => k ≠ br ∧ k ≠ bg ∧ k ≠ w.heap.size + 1) wr va vars
  flow : ListK 3 (FnP 20) (fun k => k ≠ br ∧ k ≠ bg ∧ k ≠ w.heap.size + 1) wr fa fns
variable {cs : List Value} {x : ExprD} {u u' : Nat} {wr w' : World}
theorem LSt.size (h : LSt S w0 w br bg a len cap bs fa fc fns va vc vars next left cs x u wr) : w.heap.size + 1 < wr.heap.size := (Array.getElem?_eq_some_iff.1 h.rrow).1
theorem LSt.lay (h : LSt S w0 w br bg a len cap bs fa fc fns va vc vars next left cs x u wr) (hS : ∀ k, S k → k ≠ br ∧ k ≠ bg) (ht : Turn2 br bg wr w') (hv : ListK 1 strP (fun k => k ≠ br ∧ k ≠ bg ∧ k ≠ w.heap.size + 1) w' va' vars') (hg : GSt w0 br bg a len cap bs fa fc fns u' va' vc' vars' next' left' w') : LSt S w0 w br bg a len cap bs fa fc fns va' vc' vars' next' left' cs x u' w' :=
  ⟨hg, h.t.trans ht, h.lt, (ht.block (by have := h.size; omega) (by have := h.lt; omega) (by have := h.lt; omega)).trans h.brow, (ht.block h.size (by have := h.lt; omega) (by have := h.lt; omega)).trans h.rrow,
   (exprK_stays 12).turned (T := fun k => k = br ∨ k = bg ∨ wr.heap.size ≤ k) ht (fun k _ h1 h2 => by have := hS k h1.1; have := h.size; omega) h.ex, hv, ht.list (fnP_stays 20) h.flow (fun k h => ⟨h.1, h.2.1⟩)⟩
theorem LSt.step2 (h : LSt S w0 w br bg a len cap bs fa fc fns va vc vars next left cs x u wr) (hS : ∀ k, S k → k ≠ br ∧ k ≠ bg) (ht : Turn2 br bg wr w') (hg : GSt w0 br bg a len cap bs fa fc fns u' va vc vars next' left' w') : LSt S w0 w br bg a len cap bs fa fc fns va vc vars next' left' cs x u' w' :=
  h.lay hS ht (ht.list strP_stays h.vlow (fun k h => ⟨h.1, h.2.1⟩)) hg
theorem LSt.put (h : LSt S w0 w br bg a len cap bs fa fc fns va vc vars next left cs x u wr) {vs : List Value} (hl : vs.length = 5) :
    (wr.setCells (w.heap.size + 1) 0 vs).heap[w.heap.size + 1]? = some (.cells vs.toArray 57 (0, 0)) ∧ Turned (fun k => k = w.heap.size + 1) wr (wr.setCells (w.heap.size + 1) 0 vs) ∧ GSt w0 br bg a len cap bs fa fc fns u va vc vars next left (wr.setCells (w.heap.size + 1) 0 vs) ∧ Turn2 br bg w (wr.setCells (w.heap.size + 1) 0 vs) := by
  have ht := turned_setCells (g := w.heap.size + 1) vs wr 0
  have hlt := h.lt
  refine ⟨?_, ht, h.g.other ht (fun k _ hk => by omega) ((h.vlow.turned strP_stays ht (fun k _ h1 h2 => by omega)).mono strP_stays (fun k _ h => ⟨h.1, h.2.1⟩)) ((h.flow.turned (fnP_stays 20) ht (fun k _ h1 h2 => by omega)).mono (fnP_stays 20) (fun k _ h => ⟨h.1, h.2.1⟩)), Turned.trans (S := fun k => k = br ∨ k = bg ∨ w.heap.size ≤ k) h.t (ht.mono (fun k hk => by omega))⟩
  have := heap_setCells_mid (A := []) (B := [.int .i64 0, .string ⟨#[]⟩, .slice none 0 0, .slice none 0 0, .slice none 0 0]) (C := []) (vs := vs) (o := 0) rfl (by simp [hl]) (by simpa using h.rrow)
  simpa using this
theorem LSt.later (h : LSt S w0 w br bg a len cap bs fa fc fns va vc vars next left cs x u wr) (hS : ∀ k, S k → k ≠ br ∧ k ≠ bg) (hb : Below wr.heap.size wr w') : LSt S w0 w br bg a len cap bs fa fc fns va vc vars next left cs x u w' := h.step2 hS (Turn2.below hb) (h.g.later hb)
theorem LSt.start (h : GSt w0 br bg a len cap bs fa fc fns u va vc vars next left w) (hx : exprK 12 S w cs x) : LSt S w0 w br bg a len cap bs fa fc fns va vc vars next left cs x u ((w.alloc (.cells cs.toArray 54)).alloc (.cells #[.int .i64 0, .string ⟨#[]⟩, .slice none 0 0, .slice none 0 0, .slice none 0 0] 57)) := by
  have hb : Below w.heap.size w ((w.alloc (.cells cs.toArray 54)).alloc (.cells #[.int .i64 0, .string ⟨#[]⟩, .slice none 0 0, .slice none 0 0, .slice none 0 0] 57)) := ((Below.refl _ _).alloc (Nat.le_refl _) _).alloc (by rw [World.size_alloc]; omega) _
  refine ⟨(h.alloc _).alloc _, Turn2.below hb, ⟨h.lts.1, h.lts.2, by obtain ⟨p, _, hp⟩ := h.rd; exact hp.below.size⟩, ?_, ?_, (exprK_stays 12).below hb ((exprK_stays 12).here hx), (((h.vlist.here strP_stays).mono strP_stays (fun k _ h => ⟨h.1.1, h.1.2, by have := h.2; omega⟩)).below strP_stays hb), (((h.flist.here (fnP_stays 20)).mono (fnP_stays 20) (fun k _ h => ⟨h.1.1, h.1.2, by have := h.2; omega⟩)).below (fnP_stays 20) hb)⟩
  · exact (((Below.refl _ _).alloc (Nat.le_refl _) _ : Below (w.alloc (.cells cs.toArray 54)).heap.size (w.alloc (.cells cs.toArray 54)) _).block _ (by simp)).trans (heap_alloc_new w _)
  · have := heap_alloc_new (w.alloc (.cells cs.toArray 54)) (.cells #[.int .i64 0, .string ⟨#[]⟩, .slice none 0 0, .slice none 0 0, .slice none 0 0] 57)
    rwa [World.size_alloc] at this

set_option maxRecDepth 100000 in
set_option maxHeartbeats 8000000 in
theorem glet_any (hlen : len ≤ 2000) (u : Nat) (S : Nat → Prop) (w : World) (ca : Option Addr) (cc : Nat) (x : ExprD) (h : GSt w0 br bg a len cap bs fa fc fns u va vc vars next left w) (hv : va = none → vc = 0) (hu : u + 4 ≤ 990000) (hS : ∀ k, S k → k ≠ br ∧ k ≠ bg)
    (hx : exprK 12 S w [.int .i64 x.op, .int .i64 x.n, .string x.name, .slice ca x.kids.length cc] x) :
    Calls Tryd.prog 65 #[.pointer (some ⟨bg, 0, none⟩), .agg #[.int .i64 x.op, .int .i64 x.n, .string x.name, .slice ca x.kids.length cc]] w fun e w' => ∃ (s : ByteArray) (b c : Nat) (va' : Option Addr) (vc' : Nat) (n' : Int), e = .returned (.agg (List.toArray [.int .i64 1, .string s, .slice (some ⟨b, 0, none⟩) 1 c, .slice none 0 0, .slice none 0 0])) ∧
      StmtP 1 (fun k => S k ∨ w.heap.size ≤ k) w' [.int .i64 1, .string s, .slice (some ⟨b, 0, none⟩) 1 c, .slice none 0 0, .slice none 0 0] (.mk 1 s [x] [] []) ∧ GSt w0 br bg a len cap bs fa fc fns (u + 4) va' vc' (vars ++ [s]) n' left w' ∧ (va' = none → vc' = 0) ∧ ListK 1 strP (fun k => w.heap.size ≤ k) w' va' (vars ++ [s]) ∧ Turn2 br bg w w' ∧ n' = next + 1 ∧ freshF bs vars (next + 1) (posOf w br) = (s, posOf w' br) := by
  have HU := Lib.hid hu
  have HSS := Lib.hid hS
  have HVC := Lib.hid hv
  have HPW0 := Lib.hid (show posOf ((w.alloc (.cells #[.int .i64 x.op, .int .i64 x.n, .string x.name, .slice ca x.kids.length cc] 54)).alloc (.cells #[.int .i64 0, .string ⟨#[]⟩, .slice none 0 0, .slice none 0 0, .slice none 0 0] 57)) br = posOf w br from posOf_below (((Below.refl _ _).alloc (Nat.le_refl _) _).alloc (by rw [World.size_alloc]; omega) _) h.lts.1)
  have HLT := Lib.hid h.lts
  have HBG := Lib.hid (show br ≠ bg by have := h.base; omega)
  have HB := Lib.hid (LSt.start h hx)
  clear h hu hx hv hS
  go_enter Tryd.func65, Tryd.ntmps65
  go_upto_region 1 with fail
  change Hid (LSt S w0 w br bg a len cap bs fa fc fns va vc vars next left [.int .i64 x.op, .int .i64 x.n, .string x.name, .slice ca x.kids.length cc] x u ((w.alloc (.cells #[.int .i64 x.op, .int .i64 x.n, .string x.name, .slice ca x.kids.length cc] 54)).alloc (.cells #[.int .i64 0, .string ⟨#[]⟩, .slice none 0 0, .slice none 0 0, .slice none 0 0] 57))) at HB
  generalize (w.alloc (.cells #[.int .i64 x.op, .int .i64 x.n, .string x.name, .slice ca x.kids.length cc] 54)).alloc (.cells #[.int .i64 0, .string ⟨#[]⟩, .slice none 0 0, .slice none 0 0, .slice none 0 0] 57) = wr at HB HPW0 ⊢
  go_wp2_with fail
  refine (fresh_any hlen u va vc vars next left wr HB.out.g (by have := HU.out; omega)).mono ?_
  rintro e w2 ⟨s, n', rfl, hs, hg2, ht2, hn', hF⟩
  have HF := Lib.hid (show n' = next + 1 ∧ freshF bs vars (next + 1) (posOf w br) = (s, posOf w2 br) from ⟨hn', by rw [← HPW0.out]; exact hF⟩)
  clear hn' hF
  have HB2 := Lib.hid (HB.out.step2 HSS.out ht2 hg2)
  have HSZ := Lib.hid hs
  have HLB := Lib.hid (show Below w2.heap.size w2 (w2.alloc (.cells #[] 9)) from (Below.refl _ _).alloc (Nat.le_refl _) _)
  clear hs hg2 ht2 HB
  have hvl := HB2.out.g.bnd.1
  have hlu := HU.out
  have hvn := HVC.out
  have c2 := HB2.out.g.c2
  have c2' := (HB2.out.g.alloc (.cells #[] 9)).c2
  have f2 := HB2.out.g.f 2
  go_upto_region 2 with fail
  go_upto_region 3 with (at_builtin; first | (refine app_strs rfl (.tmp 9) (.tmp 13) rfl (w2.heap.size) _ 0 [] rfl (own_empty _ _ _ _ (Nat.le_refl _)) va vars.length vc vars rfl rfl ((HB2.out.later HSS.out HLB.out).g.strs.rd.row) hvn (by omega) (by rw [World.size_alloc]; omega) ?_; intro a5 c5 w5 hown5 hg5 hlies5; (simp only [Nat.zero_add, List.nil_append] at hown5 hlies5 ⊢); (have hb5 : Below w2.heap.size w2 w5 := HLB.out.grown hg5 (by simp) (fun j hj => ((own_empty w2 w2.heap.size 9 1 (Nat.le_refl _)).lt j hj).1))) | (refine app_strs rfl (.tmp 14) (.tmp 16) rfl (w2.heap.size) _ vars.length _ rfl (ownsRow_below hown5 ((Below.refl _ _).alloc (Nat.le_refl _) _)) _ 1 _ [s] rfl rfl (rowAt_laidE' _ _ _) (by rintro ⟨⟩) (by omega) (by rw [World.size_alloc]; have := hb5.size; omega) ?_; intro a9 c9 w9 hown9 hg9 hlies9; (rw [← List.map_append] at hown9); (have hb9 : Below w2.heap.size w2 w9 := (hb5.alloc hb5.size _).grown hg9 (by rw [World.size_alloc]; have := hb5.size; omega) (fun j hj => (hown5.lt j hj).1)); (have hL9 := HB2.out.later HSS.out hb9); (have c29 := hL9.g.c2); (have f29 := hL9.g.f 2)))
  have HV9 := Lib.hid (own_strs (S := fun k => k ≠ br ∧ k ≠ bg ∧ k ≠ w.heap.size + 1) hown9 (by simp) (fun t ht => by
    rcases List.mem_append.1 ht with h | h
    · exact listK_sizes HB2.out.g.vlist t h
    · rw [List.mem_singleton.1 h]; exact HSZ.out) (fun k hk => by have := HB2.out.size; have := HB2.out.lt; omega))
  have HVN := Lib.hid ((own_strs (S := fun k => w.heap.size + 1 < k) hown9 (by simp) (fun t ht => by
    rcases List.mem_append.1 ht with h | h
    · exact listK_sizes HB2.out.g.vlist t h
    · rw [List.mem_singleton.1 h]; exact HSZ.out) (fun k hk => by have := HB2.out.size; omega)).turned strP_stays (turned_store w9 bg 2 (.slice a9 (vars.length + 1) c9)) (fun k _ h1 h2 => by have := HB2.out.lt; have h1 : w.heap.size + 1 < k := h1; have h2 : k = bg := h2; omega))
  have hlen1 : (vars ++ [s]).length = vars.length + 1 := by simp
  have HG := Lib.hid ((hL9.g.more (show u + 3 ≤ u + 4 by omega)).setVars (vc' := c9) (HV9.out.mono strP_stays (fun k _ h => ⟨h.1, h.2.1⟩)) (by have := hL9.g.bnd; omega))
  have HB3 := Lib.hid (hL9.lay HSS.out HG.out.2 (HG.out.2.list strP_stays HV9.out (fun k h => ⟨h.1, h.2.1⟩)) HG.out.1)
  rw [hlen1] at HB3
  have HN9 : Hid (a9 = none → c9 = 0) := Lib.hid (fun e => by
    rcases hown9.2 with ⟨hh, _⟩ | ⟨_, _, _, hh, _⟩
    · injection hh
    · rw [e] at hh; cases hh)
  have HP9 := Lib.hid (show posOf (w9.setCell ⟨bg, 2, none⟩ (.slice a9 (vars.length + 1) c9)) br = posOf w2 br by rw [posOf_set HBG.out, posOf_below hb9 HB2.out.g.lts.1])
  clear hown5 hg5 hlies5 hb5 hown9 hg9 hlies9 hb9 hL9 c29 f29 HG HV9 c2 c2' f2 hvn hvl HLB HB2
  generalize w9.setCell ⟨bg, 2, none⟩ (.slice a9 (vars.length + 1) c9) = w10 at HB3 HVN HP9 ⊢
  have e0 := cell_of_row _ _ 0 _ _ _ HB3.out.brow
  have e1 := cell_of_row _ _ 1 _ _ _ HB3.out.brow
  have e2 := cell_of_row _ _ 2 _ _ _ HB3.out.brow
  have e3 := cell_of_row _ _ 3 _ _ _ HB3.out.brow
  simp only [List.getElem?_toArray, List.getElem?_cons_zero, List.getElem?_cons_succ] at e0 e1 e2 e3
  have HBA := Lib.hid (HB3.out.later HSS.out (w' := (w10.alloc (.cells #[.int .i64 x.op, .int .i64 x.n, .string x.name, .slice ca x.kids.length cc] 54))) ((Below.refl _ _).alloc (Nat.le_refl _) _))
  have z0 := cell_of_row _ _ 0 _ _ _ HBA.out.rrow
  have z1 := cell_of_row _ _ 1 _ _ _ HBA.out.rrow
  have z2 := cell_of_row _ _ 2 _ _ _ HBA.out.rrow
  have z3 := cell_of_row _ _ 3 _ _ _ HBA.out.rrow
  have z4 := cell_of_row _ _ 4 _ _ _ HBA.out.rrow
  have f0 := frozen_of_row _ _ 0 _ _ HBA.out.rrow
  have f1 := frozen_of_row _ _ 1 _ _ HBA.out.rrow
  have f2 := frozen_of_row _ _ 2 _ _ HBA.out.rrow
  have f3 := frozen_of_row _ _ 3 _ _ HBA.out.rrow
  have f4 := frozen_of_row _ _ 4 _ _ HBA.out.rrow
  have HZ := Lib.hid (show ((w10.alloc (.cells #[.int .i64 x.op, .int .i64 x.n, .string x.name, .slice ca x.kids.length cc] 54)).setCells (w.heap.size + 1) 0 [.int .i64 1, .string s, .slice (some ⟨w10.heap.size, 0, none⟩) 1 1, .slice none 0 0, .slice none 0 0]).heap[w.heap.size + 1]? = some (.cells (List.toArray [.int .i64 1, .string s, .slice (some ⟨w10.heap.size, 0, none⟩) 1 1, .slice none 0 0, .slice none 0 0]) 57 (0, 0)) ∧ StmtP 1 (fun k => S k ∨ w.heap.size ≤ k) ((w10.alloc (.cells #[.int .i64 x.op, .int .i64 x.n, .string x.name, .slice ca x.kids.length cc] 54)).setCells (w.heap.size + 1) 0 [.int .i64 1, .string s, .slice (some ⟨w10.heap.size, 0, none⟩) 1 1, .slice none 0 0, .slice none 0 0]) [.int .i64 1, .string s, .slice (some ⟨w10.heap.size, 0, none⟩) 1 1, .slice none 0 0, .slice none 0 0] (.mk 1 s [x] [] []) ∧ GSt w0 br bg a len cap bs fa fc fns (u + 4) a9 c9 (vars ++ [s]) n' left ((w10.alloc (.cells #[.int .i64 x.op, .int .i64 x.n, .string x.name, .slice ca x.kids.length cc] 54)).setCells (w.heap.size + 1) 0 [.int .i64 1, .string s, .slice (some ⟨w10.heap.size, 0, none⟩) 1 1, .slice none 0 0, .slice none 0 0]) ∧ Turn2 br bg w ((w10.alloc (.cells #[.int .i64 x.op, .int .i64 x.n, .string x.name, .slice ca x.kids.length cc] 54)).setCells (w.heap.size + 1) 0 [.int .i64 1, .string s, .slice (some ⟨w10.heap.size, 0, none⟩) 1 1, .slice none 0 0, .slice none 0 0]) by
    obtain ⟨k1, k2, k3, k4⟩ := HBA.out.put (vs := [.int .i64 1, .string s, .slice (some ⟨w10.heap.size, 0, none⟩) 1 1, .slice none 0 0, .slice none 0 0]) rfl
    have hsz := HB3.out.size
    have hone : ListK 4 (exprK 12) (fun k => (S k ∧ k < w.heap.size) ∨ w.heap.size + 1 < k) (w10.alloc (.cells #[.int .i64 x.op, .int .i64 x.n, .string x.name, .slice ca x.kids.length cc] 54)) (some ⟨w10.heap.size, 0, none⟩) [x] :=
      ListK.one (exprK_stays 12) (c := [.int .i64 x.op, .int .i64 x.n, .string x.name, .slice ca x.kids.length cc]) (heap_alloc_new w10 _) (by right; omega) ((exprK_stays 12).mono (fun k _ h => .inl h) HBA.out.ex)
    refine ⟨k1, ⟨_, _, none, 0, none, 0, rfl, ⟨HSZ.out, (by decide : (-9223372036854775808 : Int) ≤ 1), (by decide : (1 : Int) ≤ 9223372036854775807), (by decide : (1 : Nat) ≤ 100), (by decide : (0 : Nat) ≤ 100), (by decide : (0 : Nat) ≤ 100)⟩, (hone.turned (exprK_stays 12) k2 (fun k _ h1 h2 => by have h2 : k = w.heap.size + 1 := h2; rcases h1 with h1 | h1 <;> omega)).mono (exprK_stays 12) (fun k _ h => by rcases h with h | h; exact .inl h.1; right; omega), ListK.nil _ _ _, ListK.nil _ _ _⟩, k3, k4⟩)
  have HVZ := Lib.hid (show ListK 1 strP (fun k => w.heap.size ≤ k) ((w10.alloc (.cells #[.int .i64 x.op, .int .i64 x.n, .string x.name, .slice ca x.kids.length cc] 54)).setCells (w.heap.size + 1) 0 [.int .i64 1, .string s, .slice (some ⟨w10.heap.size, 0, none⟩) 1 1, .slice none 0 0, .slice none 0 0]) a9 (vars ++ [s]) from
    ((HVN.out.below strP_stays ((Below.refl _ _).alloc (Nat.le_refl _) _)).turned strP_stays (turned_setCells (g := w.heap.size + 1) _ _ 0) (fun k _ h1 h2 => by have h1 : w.heap.size + 1 < k := h1; omega)).mono strP_stays (fun k _ h => by have h : w.heap.size + 1 < k := h; show w.heap.size ≤ k; omega))
  have HFZ := Lib.hid (show posOf ((w10.alloc (.cells #[.int .i64 x.op, .int .i64 x.n, .string x.name, .slice ca x.kids.length cc] 54)).setCells (w.heap.size + 1) 0 [.int .i64 1, .string s, .slice (some ⟨w10.heap.size, 0, none⟩) 1 1, .slice none 0 0, .slice none 0 0]) br = posOf w2 br by rw [posOf_sets (by have := HLT.out.1; omega), posOf_below ((Below.refl _ _).alloc (Nat.le_refl _) _) HB3.out.g.lts.1, HP9.out])
  rw [setCells5] at HZ HVZ HFZ
  go_wp2
  refine bodyPost_ret (results_cell_row rfl _ _ (w.heap.size + 1) 57 (List.toArray [.int .i64 1, .string s, .slice (some ⟨w10.heap.size, 0, none⟩) 1 1, .slice none 0 0, .slice none 0 0]) (0, 0) _ rfl ?_ Tryd.underlying57 rfl (by kernel_rfl)) rfl ?_
  · exact HZ.out.1
  exact ⟨s, _, _, a9, c9, n', rfl, HZ.out.2.1, HZ.out.2.2.1, HN9.out, HVZ.out, HZ.out.2.2.2, HF.out.1, by rw [HFZ.out]; exact HF.out.2⟩
end

end Go.Proofs.YtccdmgncjlpebaaDoor
