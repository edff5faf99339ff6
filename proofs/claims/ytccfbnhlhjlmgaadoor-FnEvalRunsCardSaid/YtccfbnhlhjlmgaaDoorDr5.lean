
/-
  The reference draws the arguments of EvalExpr. (printed by mkdr5.py)
-/
import Derived.Test.YtccfbnhlhjlmgaaDoorDr4
import Derived.Test.YtccfbnhlhjlmgaaDoorLaw
namespace Go.Proofs.YtccfbnhlhjlmgaaDoor
open Go.RowKit
set_option linter.unusedVariables false

theorem results_cell3 {P : Program} {fn : Func} {p u v : Tmp} {ty : TypeId} (h : fn.results = #[.cell p ty, .tmp u, .tmp v]) (tmps : Array Value) (w : World) (g : Nat) (t : TypeId) (cs : Array Value) (fr : Nat × Nat) (d : TypeDesc)
    (hp : tmps.getD p undef = .pointer (some ⟨g, 0, none⟩)) (hg : w.heap[g]? = some (.cells cs t fr))
    (hu : P.underlying ty = some d) (hd : (match d with | .struct _ | .array _ _ => true | _ => false) = true) (hi : (P.info? ty).map (·.size) = some cs.size) :
    (results fn tmps).run P w = .ok (.tuple #[.agg cs, tmps.getD u undef, tmps.getD v undef]) w := by
  have hp' : tmps[p]?.getD undef = .pointer (some ⟨g, 0, none⟩) := by simpa using hp
  simp only [results, h]
  simp [hp', asAddr, run_loadVar_row w g t ty cs fr d hg hu hd hi]
theorem BytesRd.later {w w' : World} {a : Option Addr} {len : Nat} {bs : List Int} (h : BytesRd w a len bs) (hb : Below w.heap.size w w') : BytesRd w' a len bs := ⟨h.length, h.row.later hb, h.byte⟩
def nms : List ByteArray := [⟨#[97]⟩, ⟨#[98]⟩, ⟨#[120]⟩, ⟨#[97]⟩]
/-- The names, the values so far. -/
structure DSt (W0 : World) (br : Nat) (a : Option Addr) (len cap : Nat) (bs : List Int) (nb p : Nat) (ia : Option Addr) (k ic : Nat) (is : List Int) (wr : World) : Prop where
  rd : Rd W0 wr br a len cap bs p
  lt : br < nb
  nrow : wr.heap[nb]? = some (.cells (nms.map Value.string).toArray 9 (0, 0))
  own : wr.ownsRow (nb + 1) 3 1 (.slice ia k ic) k (is.map (Value.int .i64))
section
variable {W0 wr w' : World} {br : Nat} {a : Option Addr} {len cap : Nat} {bs : List Int} {nb p q : Nat} {ia : Option Addr} {k ic : Nat} {is : List Int}
theorem DSt.nsize (h : DSt W0 br a len cap bs nb p ia k ic is wr) : nb < wr.heap.size := (Array.getElem?_eq_some_iff.1 h.nrow).1
theorem DSt.step (h : DSt W0 br a len cap bs nb p ia k ic is wr) (ht : TurnR br wr w') (hr : Rd W0 w' br a len cap bs q) : DSt W0 br a len cap bs nb q ia k ic is w' := by
  have hlt := h.lt
  refine ⟨hr, h.lt, (ht.block h.nsize (by omega)).trans h.nrow, own_turned (S := fun k => k = br ∨ wr.heap.size ≤ k) h.own ht (fun i hi h3 => by have := h.own.lt i hi; rcases h3 with h3 | h3 <;> omega)⟩
theorem DSt.later (h : DSt W0 br a len cap bs nb p ia k ic is wr) (hb : Below wr.heap.size wr w') : DSt W0 br a len cap bs nb p ia k ic is w' := h.step (TurnR.below hb) (h.rd.later' hb)
theorem DSt.alloc (o : Obj) (h : DSt W0 br a len cap bs nb p ia k ic is wr) : DSt W0 br a len cap bs nb p ia k ic is (wr.alloc o) := h.later ((Below.refl _ _).alloc (Nat.le_refl _) _)
theorem DSt.push {v : Int} {a' : Option Addr} {c' : Nat} (h : DSt W0 br a len cap bs nb p ia k ic is wr) (hown : w'.ownsRow (nb + 1) 3 1 (.slice a' (k + 1) c') (k + 1) (is.map (Value.int .i64) ++ [v].map (Value.int .i64))) (hg : wr.grownBy w' (Value.slice ia k ic).ownBlock) : DSt W0 br a len cap bs nb p a' (k + 1) c' (is ++ [v]) w' := by
  have hlt := h.lt
  refine ⟨h.rd.kept hg (fun i hi => by have := h.own.lt i hi; omega), h.lt, (hg.block nb h.nsize (fun e => by have := h.own.lt nb e.symm; omega)).trans h.nrow, ?_⟩
  rw [List.map_append]
  exact hown
/-- Everything is drawn. -/
structure DFin (W0 : World) (rb nb eb : Nat) (cs : List Value) (x : ExprD) (ia : Option Addr) (k ic : Nat) (is : List Int) (wr : World) : Prop where
  below : Below W0.heap.size W0 wr
  nb0 : W0.heap.size ≤ nb
  nrow : wr.heap[nb]? = some (.cells (nms.map Value.string).toArray 9 (0, 0))
  own : wr.ownsRow (nb + 1) 3 1 (.slice ia k ic) k (is.map (Value.int .i64))
  erow : wr.heap[eb]? = some (.cells cs.toArray 29 (0, 0))
  ex : ExprP 12 (fun b => W0.heap.size ≤ b) wr cs x
  long : anyE longP 12 x = false
  rrow : W0.heap[rb]? = some (.cells #[.int .i64 0, .int .i64 0, .string ⟨#[]⟩, .slice none 0 0] 29 (0, 0))
variable {rb eb : Nat} {cs : List Value} {x : ExprD}
theorem DFin.rlt (h : DFin W0 rb nb eb cs x ia k ic is wr) : rb < W0.heap.size := (Array.getElem?_eq_some_iff.1 h.rrow).1
theorem DFin.row (h : DFin W0 rb nb eb cs x ia k ic is wr) : wr.heap[rb]? = some (.cells #[.int .i64 0, .int .i64 0, .string ⟨#[]⟩, .slice none 0 0] 29 (0, 0)) := (h.below.block _ h.rlt).trans h.rrow
theorem DFin.put (h : DFin W0 rb nb eb cs x ia k ic is wr) : (wr.setCells rb 0 cs).heap[rb]? = some (.cells cs.toArray 29 (0, 0)) := by
  have := heap_setCells_mid (A := []) (B := [.int .i64 0, .int .i64 0, .string ⟨#[]⟩, .slice none 0 0]) (C := []) (vs := cs) (o := 0) rfl (by rw [exprP_len h.ex]; rfl) h.row
  simpa using this
/-- The arguments of EvalExpr were drawn. -/
def EvalDrawn (w : World) (e : Ending) (w' : World) : Prop :=
  ∃ cs x na nn nc va vn vc vs, e = .returned (.tuple #[.agg (List.toArray cs), .slice na nn nc, .slice va vn vc]) ∧ ExprAt 12 w' cs x ∧ anyE longP 12 x = false ∧ StrsE w' na nn (nms.take nn) ∧ nn ≤ 4 ∧ IntsRd w' va vn vs ∧ vn ≤ 10 ∧ Below w.heap.size w w'
theorem DFin.done {w : World} {nn nc : Nat} (h : DFin W0 rb nb eb cs x ia k ic is wr) (hw : Below w.heap.size w W0) (hrb : rb = w.heap.size) (hn : nn ≤ 4) (hk : k ≤ 10) :
    EvalDrawn w (.returned (.tuple #[.agg cs.toArray, .slice (some ⟨nb, 0, none⟩) nn nc, .slice ia k ic])) (wr.setCells rb 0 cs) := by
  have ht := turned_setCells (g := rb) cs wr 0
  have hr := h.rlt
  have hn0 := h.nb0
  refine ⟨cs, x, _, nn, nc, ia, k, ic, is, rfl, exprP_at (exprP_turned ht (fun k _ h1 h2 => by omega) h.ex), h.long, ⟨?_, .inr ⟨nb, 0, rfl, fun i v hv => ?_⟩⟩, hn, (ints_of_own (own_turned h.own ht (fun k hk h2 => by have := h.own.lt k hk; omega))).toIntsRd, hk, ?_⟩
  · rw [List.length_take]; show min nn 4 = nn; omega
  · have hb := (ht.block nb (Array.getElem?_eq_some_iff.1 h.nrow).1 (by omega)).trans h.nrow
    rw [cell_of_row _ _ (0 + i) _ _ _ hb]
    rw [List.map_take, List.getElem?_take] at hv
    split at hv
    · simpa using hv
    · cases hv
  · exact hw.trans ((h.below.mono hw.size).trans (ht.below (B := w.heap.size) (Nat.le_trans hw.size h.below.size) (fun k hk => by omega)))
end

set_option maxRecDepth 100000 in
set_option maxHeartbeats 8000000 in
theorem drawEvalExpr_any (w : World) (a : Option Addr) (len cap : Nat) (bs : List Int) (hin : BytesRd w a len bs) (hcap : len ≤ cap) :
    Calls Tryd.prog 29 #[.slice a len cap] w fun e w' => EvalDrawn w e w' := by
  have hb0 : Below w.heap.size w (w.alloc (.cells #[.int .i64 0, .int .i64 0, .string ⟨#[]⟩, .slice none 0 0] 29)) := (Below.refl _ _).alloc (Nat.le_refl _) _
  have HB := Lib.hid (And.intro hb0 (And.intro (heap_alloc_new w (.cells #[.int .i64 0, .int .i64 0, .string ⟨#[]⟩, .slice none 0 0] 29)) (And.intro (hin.later hb0) (World.size_alloc w (.cells #[.int .i64 0, .int .i64 0, .string ⟨#[]⟩, .slice none 0 0] 29)))))
  clear hb0 hin
  go_enter Tryd.func29, Tryd.ntmps29
  go_upto_region 1 with fail
  obtain ⟨rb, hrb⟩ : ∃ b, b = w.heap.size := ⟨_, rfl⟩
  generalize w.alloc (.cells #[.int .i64 0, .int .i64 0, .string ⟨#[]⟩, .slice none 0 0] 29) = W1 at HB ⊢
  rw [← hrb] at HB ⊢
  have H0 := Lib.hid (show Below w.heap.size w W1 ∧ rb = w.heap.size from ⟨by rw [← hrb]; exact HB.out.1, hrb⟩)
  clear hrb
  go_wp2_with fail
  refine (open_any W1 a len cap bs HB.out.2.2.1 hcap).mono ?_
  rintro e w2 ⟨a1, len1, cap1, bs1, rfl, hrd2, hlen1, hsz2⟩
  obtain ⟨br, hbr⟩ : ∃ b, b = W1.heap.size := ⟨_, rfl⟩
  rw [← hbr] at hrd2 hsz2 ⊢
  have HBR := Lib.hid hbr
  have HRD := Lib.hid (And.intro hrd2 hsz2)
  clear hbr hrd2 hsz2 hcap
  obtain ⟨nb, hnb⟩ : ∃ b, b = w2.heap.size := ⟨_, rfl⟩
  have HA2 := Lib.hid (And.intro (World.size_alloc w2 (.cells #[.string ⟨#[97]⟩, .string ⟨#[98]⟩, .string ⟨#[120]⟩, .string ⟨#[97]⟩] 9)) (And.intro (heap_alloc_new w2 (.cells #[.string ⟨#[97]⟩, .string ⟨#[98]⟩, .string ⟨#[120]⟩, .string ⟨#[97]⟩] 9)) (And.intro (HRD.out.1.alloc (.cells #[.string ⟨#[97]⟩, .string ⟨#[98]⟩, .string ⟨#[120]⟩, .string ⟨#[97]⟩] 9)) hnb)))
  clear hnb
  go_wp2_with fail
  generalize w2.alloc (.cells #[.string ⟨#[97]⟩, .string ⟨#[98]⟩, .string ⟨#[120]⟩, .string ⟨#[97]⟩] 9) = W2 at HA2 ⊢
  rw [← HA2.out.1]
  refine (num_any W1 _ br a1 len1 cap1 bs1 0 W2.heap.size 4 4 [2, 3, 4, 0] (HA2.out.2.2.1.alloc _) (litI W2 [2, 3, 4, 0]) (by have := HRD.out.2; have := HA2.out.1; omega) (by omega) hlen1 (by omega)).mono ?_
  rintro e w3 ⟨n, hn, rfl, hrd3, hg3⟩
  have HN3 := Lib.hid (show br < nb ∧ w3.heap[nb]? = some (.cells (nms.map Value.string).toArray 9 (0, 0)) ∧ nb < w3.heap.size by
    have h1 := HRD.out.2
    have h2 := HA2.out.2.1
    have h3 := (TurnR.alloc br W2 (.cells ([2, 3, 4, 0].map (Value.int .i64)).toArray 3)).trans (TurnR.grown hg3)
    have h4 := h3.block (b := w2.heap.size) (by have := HA2.out.1; omega) (by omega)
    rw [HA2.out.2.2.2]
    exact ⟨h1, h4.trans h2, (Array.getElem?_eq_some_iff.1 (h4.trans h2)).1⟩)
  rw [← HA2.out.2.2.2]
  have HRD3 := Lib.hid hrd3
  clear hrd3 hg3
  simp only [List.mem_cons, List.not_mem_nil, or_false] at hn
  rcases hn with rfl | rfl | rfl | rfl
  · go_upto_region 3 with fail
    have HD := Lib.hid (show DSt W1 br a1 len1 cap1 bs1 nb 1 (some ⟨w3.heap.size, 0, none⟩) 0 0 [] (w3.alloc (.cells #[] 3)) from
      ⟨HRD3.out.alloc _, HN3.out.1, (heap_alloc_old _ _ HN3.out.2.2).trans HN3.out.2.1, own_empty w3 (nb + 1) 3 1 HN3.out.2.2⟩)
    go_upto_region 4 with fail
    generalize w3.alloc (.cells #[] 3) = W4 at HD ⊢
    obtain ⟨ia0, hia⟩ : ∃ x, x = some (⟨w3.heap.size, 0, none⟩ : Addr) := ⟨_, rfl⟩
    rw [← hia] at HD ⊢
    clear hia
    go_wp2_with fail
    go_loopg [7, 19] 2 (fun G s i wr => ∃ (ia : Option Addr) (k ic : Nat) (is : List Int) (q : Nat), k + G = 2 ∧ s = .slice ia k ic ∧ i = .int .i64 k ∧ Hid (DSt W1 br a1 len1 cap1 bs1 nb q ia k ic is wr ∧ q ≤ 1 + 2 * k))
    case atStart => exact ⟨ia0, 0, 0, [], 1, by omega, rfl, rfl, Lib.hid ⟨HD.out, by omega⟩⟩
    case round =>
      obtain ⟨ia, k, ic, is, q, hk, rfl, rfl, HB2⟩ := hrel
      clear HD
      by_cases hlt : 0 < gk
      · have hki : (k : Int) < 2 := by omega
        have HKQ := Lib.hid (show k ≤ 4 ∧ q ≤ 9 by have := HB2.out.2; omega)
        go_wp2_with fail
        refine (pick_any W1 _ br a1 len1 cap1 bs1 q 256 HB2.out.1.rd (by omega) hlen1 (by have := HKQ.out; omega)).mono ?_
        rintro e w5 ⟨v, _, _, rfl, hrd5, hg5⟩
        have HD5 := Lib.hid (HB2.out.1.step (TurnR.grown hg5) hrd5)
        clear hrd5 hg5
        go_wp2_with fail
        refine (num_any W1 _ br a1 len1 cap1 bs1 (q + 1) w5.heap.size 6 6 [0, 1, 2, 16, 255, v] (HD5.out.alloc _).rd (litI w5 [0, 1, 2, 16, 255, v]) (by have := HD5.out.rd.lt; omega) (by omega) hlen1 (by have := HKQ.out; omega)).mono ?_
        rintro e w6 ⟨u, -, rfl, hrd6, hg6⟩
        have HD6 := Lib.hid (((HD5.out.alloc (.cells ([0, 1, 2, 16, 255, v].map (Value.int .i64)).toArray 3)).step (TurnR.grown hg6) hrd6).alloc (.cells #[.int .i64 u] 3))
        clear hrd6 hg6
        go_wp2_with (at_builtin; refine app_ints rfl (.tmp 21) (.tmp 27) rfl (nb + 1) _ k _ rfl HD6.out.own _ 1 1 [u] rfl rfl (rowAt_laidE' w6 [.int .i64 u] 3) (by simp) (by have := HKQ.out; omega) HD6.out.nsize ?_; intro a9 c9 w9 hown9 hg9 hlies9; (have HP9 := Lib.hid (HD6.out.push hown9 hg9)); clear hown9 hg9 hlies9)
        go_roundg (gk - 1)
        case measure => omega
        case rel => exact ⟨_, k + 1, _, _, _, by omega, rfl, by go_num, Lib.hid ⟨HP9.out, by have := HB2.out.2; omega⟩⟩
      · obtain rfl : gk = 0 := by omega
        obtain rfl : k = 2 := by omega
        have HQ := Lib.hid (show q ≤ 20 by have := HB2.out.2; omega)
        have HN := Lib.hid (And.intro HB2.out.1.lt HB2.out.1.nsize)
        have HCALL := Lib.hid (l2Expr_any W1 br a1 len1 cap1 bs1 hlen1 (some ⟨wr.heap.size, 0, none⟩) 2 3 ([(⟨#[97]⟩ : ByteArray), ⟨#[98]⟩, ⟨#[120]⟩].take 2) (by decide) (by omega) 4 _ q (by omega) (HB2.out.1.alloc (.cells ([(⟨#[97]⟩ : ByteArray), ⟨#[98]⟩, ⟨#[120]⟩].map Value.string).toArray 9)).rd (by have := HQ.out; show q + 124 ≤ _; omega) ((StrsA.lit wr [(⟨#[97]⟩ : ByteArray), ⟨#[98]⟩, ⟨#[120]⟩] (by have := HN.out; omega)).pre (by decide)))
        go_wp2_with fail
        refine HCALL.out.mono ?_
        rintro e w5 ⟨ecs, x, q5, rfl, hrd5, hq5, ht5, hx5, hl5, -⟩
        obtain ⟨xa, xc, rfl⟩ := exprP_form hx5
        have hD5 := (HB2.out.1.alloc (.cells ([(⟨#[97]⟩ : ByteArray), ⟨#[98]⟩, ⟨#[120]⟩].map Value.string).toArray 9)).step ht5 hrd5
        have HD5 := Lib.hid (hD5.alloc (.cells #[.int .i64 x.op, .int .i64 x.n, .string x.name, .slice xa x.kids.length xc] 29))
        have HE := Lib.hid (show ExprP 12 (fun b => wr.heap.size ≤ b ∧ b < w5.heap.size) (w5.alloc (.cells #[.int .i64 x.op, .int .i64 x.n, .string x.name, .slice xa x.kids.length xc] 29)) [.int .i64 x.op, .int .i64 x.n, .string x.name, .slice xa x.kids.length xc] x ∧ anyE longP 12 x = false ∧ (w5.alloc (.cells #[.int .i64 x.op, .int .i64 x.n, .string x.name, .slice xa x.kids.length xc] 29)).heap[w5.heap.size]? = some (.cells #[.int .i64 x.op, .int .i64 x.n, .string x.name, .slice xa x.kids.length xc] 29 (0, 0)) ∧ wr.heap.size ≤ w5.heap.size from
          ⟨exprP_below ((Below.refl _ _).alloc (Nat.le_refl _) _) (exprP_le (by omega) (exprP_mono (fun k h1 h => ⟨by rw [World.size_alloc] at h; omega, h1⟩) hx5)), by rw [anyE_deep hx5 (by omega)]; exact hl5, heap_alloc_new w5 _, by have := Turned.size (S := fun k => k = br ∨ (wr.alloc (.cells ([(⟨#[97]⟩ : ByteArray), ⟨#[98]⟩, ⟨#[120]⟩].map Value.string).toArray 9)).heap.size ≤ k) ht5; rw [World.size_alloc] at this; omega⟩)
        have HIA := Lib.hid (show ∀ i, (Value.slice ia 2 ic).ownBlock = some i → nb < i ∧ i < wr.heap.size from fun i hi => by have := HB2.out.1.own.lt i hi; omega)
        have HQ5 := Lib.hid (show q5 ≤ 144 by have := HQ.out; have h9 : costE 4 = 124 := rfl; omega)
        clear hrd5 hq5 ht5 hx5 hl5 hD5 HCALL
        go_upto_region 9 with fail
        obtain ⟨eb, heb⟩ : ∃ b, b = w5.heap.size := ⟨_, rfl⟩
        rw [← heb] at HE ⊢
        generalize w5.alloc (.cells #[.int .i64 x.op, .int .i64 x.n, .string x.name, .slice xa x.kids.length xc] 29) = W6 at HE HD5 ⊢
        clear heb
        go_wp2_with fail
        refine (pick_any W1 _ br a1 len1 cap1 bs1 q5 16 HD5.out.rd (by omega) hlen1 (by have := HQ5.out; omega)).mono ?_
        rintro e w7 ⟨v, _, _, rfl, hrd7, hg7⟩
        have HD7 := Lib.hid (HD5.out.step (TurnR.grown hg7) hrd7)
        have HE7 := Lib.hid (show ExprP 12 (fun b => wr.heap.size ≤ b ∧ b < eb) w7 [.int .i64 x.op, .int .i64 x.n, .string x.name, .slice xa x.kids.length xc] x ∧ w7.heap[eb]? = some (.cells #[.int .i64 x.op, .int .i64 x.n, .string x.name, .slice xa x.kids.length xc] 29 (0, 0)) ∧ eb < w7.heap.size by
          have hlt := HN.out
          have hes := (Array.getElem?_eq_some_iff.1 HE.out.2.2.1).1
          have hsz := hg7.size
          exact ⟨exprP_turned (T := fun k => k = br ∨ W6.heap.size ≤ k) (TurnR.grown hg7) (fun k h1 h2 h3 => by rcases h3 with h3 | h3 <;> omega) HE.out.1, ((TurnR.grown hg7).block hes (by have := HE.out.2.2.2; omega)).trans HE.out.2.2.1, by omega⟩)
        clear hrd7 hg7
        by_cases h0 : v = 0
        · subst h0
          have HCALL := Lib.hid (l2Bent_any W1 w7 br a1 len1 cap1 bs1 hlen1 (q5 + 1) HD7.out.rd (by have := HQ5.out; omega))
          go_wp2_with fail
          refine HCALL.out.mono ?_
          rintro e w8 ⟨ycs, y, q8, rfl, hrd8, hq8, ht8, hy8, hl8, -⟩
          obtain ⟨ya, yc, rfl⟩ := exprP_form hy8
          have HD8 := Lib.hid (HD7.out.step ht8 hrd8)
          have HER := Lib.hid (show w8.heap[eb]? = some (.cells #[.int .i64 x.op, .int .i64 x.n, .string x.name, .slice xa x.kids.length xc] 29 (0, 0)) from (ht8.block HE7.out.2.2 (by have := HE.out.2.2.2; have := HN.out; omega)).trans HE7.out.2.1)
          have HF := Lib.hid (show DFin W1 rb nb eb [.int .i64 y.op, .int .i64 y.n, .string y.name, .slice ya y.kids.length yc] y ia 2 ic is (w8.setCells eb 0 [.int .i64 y.op, .int .i64 y.n, .string y.name, .slice ya y.kids.length yc]) by
            have ht := turned_setCells (g := eb) [.int .i64 y.op, .int .i64 y.n, .string y.name, .slice ya y.kids.length yc] w8 0
            have hes := HE7.out.2.2
            have hlt := HN.out
            have hge := HE.out.2.2.2
            have hbase := HD8.out.rd.base
            have hb8 := HD8.out.rd.below.size
            refine ⟨HD8.out.rd.below.trans (ht.below (B := W1.heap.size) hb8 (fun k hk => by omega)), by omega, (heap_setCells_other (by omega) _ _ _).trans HD8.out.nrow, own_turned HD8.out.own ht (fun k hk h3 => by have := HIA.out k hk; omega), ?_, ?_, hl8, HB.out.2.1⟩
            · have := heap_setCells_mid (A := []) (B := [.int .i64 x.op, .int .i64 x.n, .string x.name, .slice xa x.kids.length xc]) (C := []) (vs := [.int .i64 y.op, .int .i64 y.n, .string y.name, .slice ya y.kids.length yc]) (o := 0) rfl rfl (by simpa using HER.out)
              simpa using this
            · exact exprP_mono (fun k _ h1 => by omega) (exprP_turned ht (fun k _ h1 h2 => by omega) hy8))
          clear hrd8 hq8 ht8 hy8 hl8 HCALL
          have k0 := cell_of_row _ _ 0 _ _ _ HER.out
          have k1 := cell_of_row _ _ 1 _ _ _ HER.out
          have k2 := cell_of_row _ _ 2 _ _ _ HER.out
          have k3 := cell_of_row _ _ 3 _ _ _ HER.out
          simp only [List.getElem?_toArray, List.getElem?_cons_zero, List.getElem?_cons_succ] at k0 k1 k2 k3
          have g0 := frozen_of_row _ _ 0 _ _ HER.out
          have g1 := frozen_of_row _ _ 1 _ _ HER.out
          have g2 := frozen_of_row _ _ 2 _ _ HER.out
          have g3 := frozen_of_row _ _ 3 _ _ HER.out
          rw [setCells4] at HF
          go_upto_region 17 with fail
          clear k0 k1 k2 k3 g0 g1 g2 g3
          generalize (((w8.setCell ⟨eb, 0, none⟩ (.int .i64 y.op)).setCell ⟨eb, 1, none⟩ (.int .i64 y.n)).setCell ⟨eb, 2, none⟩ (.string y.name)).setCell ⟨eb, 3, none⟩ (.slice ya y.kids.length yc) = W9 at HF ⊢
          have e0 := cell_of_row _ _ 0 _ _ _ HF.out.erow
          have e1 := cell_of_row _ _ 1 _ _ _ HF.out.erow
          have e2 := cell_of_row _ _ 2 _ _ _ HF.out.erow
          have e3 := cell_of_row _ _ 3 _ _ _ HF.out.erow
          simp only [List.getElem?_toArray, List.getElem?_cons_zero, List.getElem?_cons_succ] at e0 e1 e2 e3
          have c0 := cell_of_row _ _ 0 _ _ _ HF.out.row
          have c1 := cell_of_row _ _ 1 _ _ _ HF.out.row
          have c2 := cell_of_row _ _ 2 _ _ _ HF.out.row
          have c3 := cell_of_row _ _ 3 _ _ _ HF.out.row
          simp only [List.getElem?_toArray, List.getElem?_cons_zero, List.getElem?_cons_succ] at c0 c1 c2 c3
          have f0 := frozen_of_row _ _ 0 _ _ HF.out.row
          have f1 := frozen_of_row _ _ 1 _ _ HF.out.row
          have f2 := frozen_of_row _ _ 2 _ _ HF.out.row
          have f3 := frozen_of_row _ _ 3 _ _ HF.out.row
          go_wp2
          refine bodyPost_ret (results_cell3 rfl _ _ rb 29 #[.int .i64 y.op, .int .i64 y.n, .string y.name, .slice ya y.kids.length yc] (0, 0) _ rfl ?_ Tryd.underlying29 rfl (by kernel_rfl)) rfl ?_
          · exact HF.out.put
          have hdone := HF.out.done (nn := 2) (nc := 4) H0.out.1 H0.out.2 (by omega) (by omega)
          rw [setCells4] at hdone
          exact hdone
        have e00 : (v == 0) = false := by simpa using h0
        have HDF := Lib.hid (show ∀ (W : World) (ja : Option Addr) (jk jc : Nat) (js : List Int), (∃ T : Nat → Prop, Turned T w7 W ∧ ∀ k, T k → (nb < k ∧ k < wr.heap.size) ∨ w7.heap.size ≤ k) → W.ownsRow (nb + 1) 3 1 (.slice ja jk jc) jk (js.map (Value.int .i64)) → DFin W1 rb nb eb [.int .i64 x.op, .int .i64 x.n, .string x.name, .slice xa x.kids.length xc] x ja jk jc js W from fun W ja jk jc js hT hown => by
          obtain ⟨T, ht, hT⟩ := hT
          have hes := HE7.out.2.2
          have hlt := HN.out
          have hge := HE.out.2.2.2
          have hbase := HD7.out.rd.base
          have hb8 := HD7.out.rd.below.size
          refine ⟨HD7.out.rd.below.trans (ht.below (B := W1.heap.size) hb8 (fun k hk => by have := hT k hk; omega)), by omega, (ht.block nb HD7.out.nsize (fun h => by have := hT nb h; have := HD7.out.nsize; omega)).trans HD7.out.nrow, hown, (ht.block eb hes (fun h => by have := hT eb h; omega)).trans HE7.out.2.1, ?_, HE.out.2.1, HB.out.2.1⟩
          exact exprP_mono (fun k _ h1 => by have := h1.1; omega) (exprP_turned ht (fun k h1 h2 h3 => by have := hT k h3; have := h2.1; omega) HE7.out.1))
        by_cases h1 : v = 1
        · subst h1
          clear h0
          have HDA := Lib.hid (HD7.out.alloc (.cells #[.int .i64 1] 3))
          go_wp2_with (at_builtin; refine app_ints rfl (.tmp 45) (.tmp 46) rfl (nb + 1) _ 2 _ rfl HDA.out.own _ 1 1 [1] rfl rfl (rowAt_laidE' w7 [.int .i64 1] 3) (by simp) (by omega) HDA.out.nsize ?_; intro a9 c9 w9 hown9 hg9 hlies9; (have HF := Lib.hid (HDF.out w9 a9 (2 + 1) c9 (is ++ [1]) ⟨fun k => (Value.slice ia 2 ic).ownBlock = some k ∨ w7.heap.size ≤ k, Turned.trans (b := w7.alloc (.cells #[.int .i64 1] 3)) (turned_of_below ((Below.refl w7.heap.size _).alloc (Nat.le_refl _) _) (fun k h1 h2 => .inr h1)) (turned_of_grown hg9 (fun k hk => .inl hk)), fun k hk => by rcases hk with hk | hk; exact .inl (HIA.out k hk); exact .inr hk⟩ (by rw [List.map_append]; exact hown9))); (have e0 := cell_of_row _ _ 0 _ _ _ HF.out.erow); (have e1 := cell_of_row _ _ 1 _ _ _ HF.out.erow); (have e2 := cell_of_row _ _ 2 _ _ _ HF.out.erow); (have e3 := cell_of_row _ _ 3 _ _ _ HF.out.erow); (simp only [List.getElem?_toArray, List.getElem?_cons_zero, List.getElem?_cons_succ] at e0 e1 e2 e3); (have c0 := cell_of_row _ _ 0 _ _ _ HF.out.row); (have c1 := cell_of_row _ _ 1 _ _ _ HF.out.row); (have c2 := cell_of_row _ _ 2 _ _ _ HF.out.row); (have c3 := cell_of_row _ _ 3 _ _ _ HF.out.row); (simp only [List.getElem?_toArray, List.getElem?_cons_zero, List.getElem?_cons_succ] at c0 c1 c2 c3); (have f0 := frozen_of_row _ _ 0 _ _ HF.out.row); (have f1 := frozen_of_row _ _ 1 _ _ HF.out.row); (have f2 := frozen_of_row _ _ 2 _ _ HF.out.row); (have f3 := frozen_of_row _ _ 3 _ _ HF.out.row); clear hown9 hg9 hlies9)
          refine bodyPost_ret (results_cell3 rfl _ _ rb 29 #[.int .i64 x.op, .int .i64 x.n, .string x.name, .slice xa x.kids.length xc] (0, 0) _ rfl ?_ Tryd.underlying29 rfl (by kernel_rfl)) rfl ?_
          · exact HF.out.put
          have hdone := HF.out.done (nn := 2) (nc := 4) H0.out.1 H0.out.2 (by omega) (by omega)
          rw [setCells4] at hdone
          exact hdone
        have e01 : (v == 1) = false := by simpa using h1
        by_cases h2 : v = 2
        · subst h2
          clear h0 h1
          obtain ⟨ig, rfl⟩ : ∃ g, ia = some (⟨g, 0, none⟩ : Addr) := by
            rcases HD7.out.own.2 with ⟨_, h9⟩ | ⟨g, cap9, cur, hv, _⟩
            · cases h9
            · simp only [Value.slice.injEq] at hv
              exact ⟨g, hv.1⟩
          have HIG := Lib.hid (HIA.out ig rfl)
          go_wp2_with fail
          refine (num_any W1 _ br a1 len1 cap1 bs1 (q5 + 1) w7.heap.size 2 2 [-1, 256] (HD7.out.alloc _).rd (litI w7 [-1, 256]) (by have := HD7.out.rd.lt; omega) (by omega) hlen1 (by have := HQ5.out; omega)).mono ?_
          rintro e w8 ⟨u, -, rfl, hrd8, hg8⟩
          have HD8 := Lib.hid ((HD7.out.alloc (.cells ([-1, 256].map (Value.int .i64)).toArray 3)).step (TurnR.grown hg8) hrd8)
          have hlen9 : (is.map (Value.int .i64)).length = 2 := by have := HD8.out.own.1; simpa using this
          have HLN := Lib.hid hlen9
          have hst := HD8.out.own.stored 0 (.int .i64 u)
          have HF := Lib.hid (show DFin W1 rb nb eb [.int .i64 x.op, .int .i64 x.n, .string x.name, .slice xa x.kids.length xc] x (some ⟨ig, 0, none⟩) 2 ic (is.set 0 u) (w8.setCell ⟨ig, 0, none⟩ (.int .i64 u)) by
            have hbt := (TurnR.alloc br w7 (.cells ([-1, 256].map (Value.int .i64)).toArray 3)).trans (TurnR.grown hg8)
            have hput := turned_store w8 ig 0 (.int .i64 u)
            have hes := HE7.out.2.2
            have hlt := HN.out
            have hge := HE.out.2.2.2
            have hbase := HD7.out.rd.base
            have hig := HIG.out
            have hs8 := Turned.size (S := fun k => k = br ∨ w7.heap.size ≤ k) hbt
            refine ⟨?_, by omega, ?_, by rw [List.map_set]; exact hst.1, ?_, ?_, HE.out.2.1, HB.out.2.1⟩
            · exact HD8.out.rd.below.setCell (show W1.heap.size ≤ ig by omega) _
            · exact (heap_setCell_other _ _ _ _ (by show nb ≠ ig; omega)).trans HD8.out.nrow
            · exact (heap_setCell_other _ _ _ _ (by show eb ≠ ig; omega)).trans ((hbt.block hes (by omega)).trans HE7.out.2.1)
            · exact exprP_mono (fun k _ h1 => by have := h1.1; omega) (exprP_turned hput (fun k h1 h2 h3 => by have := h2.1; omega) (exprP_turned (T := fun k => k = br ∨ w7.heap.size ≤ k) hbt (fun k h1 h2 h3 => by obtain ⟨j1, j2⟩ := h2; rcases h3 with h3 | h3 <;> omega) HE7.out.1)))
          have i0 : ∃ u0, w8.cell? ⟨ig, 0, none⟩ = some u0 := by
            rw [HD8.out.own.cellAt 0 (by decide)]
            exact ⟨_, List.getElem?_eq_getElem (by rw [hlen9]; decide)⟩
          obtain ⟨u0, i0⟩ := i0
          have j0 := HD8.out.own.frozenAt 0
          clear hrd8 hg8 hlen9 hst
          go_upto_region 17 with fail
          clear i0 j0
          generalize w8.setCell ⟨ig, 0, none⟩ (.int .i64 u) = W9 at HF ⊢
          have e0 := cell_of_row _ _ 0 _ _ _ HF.out.erow
          have e1 := cell_of_row _ _ 1 _ _ _ HF.out.erow
          have e2 := cell_of_row _ _ 2 _ _ _ HF.out.erow
          have e3 := cell_of_row _ _ 3 _ _ _ HF.out.erow
          simp only [List.getElem?_toArray, List.getElem?_cons_zero, List.getElem?_cons_succ] at e0 e1 e2 e3
          have c0 := cell_of_row _ _ 0 _ _ _ HF.out.row
          have c1 := cell_of_row _ _ 1 _ _ _ HF.out.row
          have c2 := cell_of_row _ _ 2 _ _ _ HF.out.row
          have c3 := cell_of_row _ _ 3 _ _ _ HF.out.row
          simp only [List.getElem?_toArray, List.getElem?_cons_zero, List.getElem?_cons_succ] at c0 c1 c2 c3
          have f0 := frozen_of_row _ _ 0 _ _ HF.out.row
          have f1 := frozen_of_row _ _ 1 _ _ HF.out.row
          have f2 := frozen_of_row _ _ 2 _ _ HF.out.row
          have f3 := frozen_of_row _ _ 3 _ _ HF.out.row
          go_wp2
          refine bodyPost_ret (results_cell3 rfl _ _ rb 29 #[.int .i64 x.op, .int .i64 x.n, .string x.name, .slice xa x.kids.length xc] (0, 0) _ rfl ?_ Tryd.underlying29 rfl (by kernel_rfl)) rfl ?_
          · exact HF.out.put
          have hdone := HF.out.done (nn := 2) (nc := 4) H0.out.1 H0.out.2 (by omega) (by omega)
          rw [setCells4] at hdone
          exact hdone
        have e02 : (v == 2) = false := by simpa using h2
        clear h0 h1 h2
        have HF := Lib.hid (HDF.out w7 ia 2 ic is ⟨fun _ => False, Turned.refl _ _, fun _ h => h.elim⟩ HD7.out.own)
        go_upto_region 17 with fail
        have e0 := cell_of_row _ _ 0 _ _ _ HF.out.erow
        have e1 := cell_of_row _ _ 1 _ _ _ HF.out.erow
        have e2 := cell_of_row _ _ 2 _ _ _ HF.out.erow
        have e3 := cell_of_row _ _ 3 _ _ _ HF.out.erow
        simp only [List.getElem?_toArray, List.getElem?_cons_zero, List.getElem?_cons_succ] at e0 e1 e2 e3
        have c0 := cell_of_row _ _ 0 _ _ _ HF.out.row
        have c1 := cell_of_row _ _ 1 _ _ _ HF.out.row
        have c2 := cell_of_row _ _ 2 _ _ _ HF.out.row
        have c3 := cell_of_row _ _ 3 _ _ _ HF.out.row
        simp only [List.getElem?_toArray, List.getElem?_cons_zero, List.getElem?_cons_succ] at c0 c1 c2 c3
        have f0 := frozen_of_row _ _ 0 _ _ HF.out.row
        have f1 := frozen_of_row _ _ 1 _ _ HF.out.row
        have f2 := frozen_of_row _ _ 2 _ _ HF.out.row
        have f3 := frozen_of_row _ _ 3 _ _ HF.out.row
        go_wp2
        refine bodyPost_ret (results_cell3 rfl _ _ rb 29 #[.int .i64 x.op, .int .i64 x.n, .string x.name, .slice xa x.kids.length xc] (0, 0) _ rfl ?_ Tryd.underlying29 rfl (by kernel_rfl)) rfl ?_
        · exact HF.out.put
        have hdone := HF.out.done (nn := 2) (nc := 4) H0.out.1 H0.out.2 (by omega) (by omega)
        rw [setCells4] at hdone
        exact hdone
  · go_upto_region 3 with fail
    have HD := Lib.hid (show DSt W1 br a1 len1 cap1 bs1 nb 1 (some ⟨w3.heap.size, 0, none⟩) 0 0 [] (w3.alloc (.cells #[] 3)) from
      ⟨HRD3.out.alloc _, HN3.out.1, (heap_alloc_old _ _ HN3.out.2.2).trans HN3.out.2.1, own_empty w3 (nb + 1) 3 1 HN3.out.2.2⟩)
    go_upto_region 4 with fail
    generalize w3.alloc (.cells #[] 3) = W4 at HD ⊢
    obtain ⟨ia0, hia⟩ : ∃ x, x = some (⟨w3.heap.size, 0, none⟩ : Addr) := ⟨_, rfl⟩
    rw [← hia] at HD ⊢
    clear hia
    go_wp2_with fail
    go_loopg [7, 19] 3 (fun G s i wr => ∃ (ia : Option Addr) (k ic : Nat) (is : List Int) (q : Nat), k + G = 3 ∧ s = .slice ia k ic ∧ i = .int .i64 k ∧ Hid (DSt W1 br a1 len1 cap1 bs1 nb q ia k ic is wr ∧ q ≤ 1 + 2 * k))
    case atStart => exact ⟨ia0, 0, 0, [], 1, by omega, rfl, rfl, Lib.hid ⟨HD.out, by omega⟩⟩
    case round =>
      obtain ⟨ia, k, ic, is, q, hk, rfl, rfl, HB2⟩ := hrel
      clear HD
      by_cases hlt : 0 < gk
      · have hki : (k : Int) < 3 := by omega
        have HKQ := Lib.hid (show k ≤ 4 ∧ q ≤ 9 by have := HB2.out.2; omega)
        go_wp2_with fail
        refine (pick_any W1 _ br a1 len1 cap1 bs1 q 256 HB2.out.1.rd (by omega) hlen1 (by have := HKQ.out; omega)).mono ?_
        rintro e w5 ⟨v, _, _, rfl, hrd5, hg5⟩
        have HD5 := Lib.hid (HB2.out.1.step (TurnR.grown hg5) hrd5)
        clear hrd5 hg5
        go_wp2_with fail
        refine (num_any W1 _ br a1 len1 cap1 bs1 (q + 1) w5.heap.size 6 6 [0, 1, 2, 16, 255, v] (HD5.out.alloc _).rd (litI w5 [0, 1, 2, 16, 255, v]) (by have := HD5.out.rd.lt; omega) (by omega) hlen1 (by have := HKQ.out; omega)).mono ?_
        rintro e w6 ⟨u, -, rfl, hrd6, hg6⟩
        have HD6 := Lib.hid (((HD5.out.alloc (.cells ([0, 1, 2, 16, 255, v].map (Value.int .i64)).toArray 3)).step (TurnR.grown hg6) hrd6).alloc (.cells #[.int .i64 u] 3))
        clear hrd6 hg6
        go_wp2_with (at_builtin; refine app_ints rfl (.tmp 21) (.tmp 27) rfl (nb + 1) _ k _ rfl HD6.out.own _ 1 1 [u] rfl rfl (rowAt_laidE' w6 [.int .i64 u] 3) (by simp) (by have := HKQ.out; omega) HD6.out.nsize ?_; intro a9 c9 w9 hown9 hg9 hlies9; (have HP9 := Lib.hid (HD6.out.push hown9 hg9)); clear hown9 hg9 hlies9)
        go_roundg (gk - 1)
        case measure => omega
        case rel => exact ⟨_, k + 1, _, _, _, by omega, rfl, by go_num, Lib.hid ⟨HP9.out, by have := HB2.out.2; omega⟩⟩
      · obtain rfl : gk = 0 := by omega
        obtain rfl : k = 3 := by omega
        have HQ := Lib.hid (show q ≤ 20 by have := HB2.out.2; omega)
        have HN := Lib.hid (And.intro HB2.out.1.lt HB2.out.1.nsize)
        have HCALL := Lib.hid (l2Expr_any W1 br a1 len1 cap1 bs1 hlen1 (some ⟨wr.heap.size, 0, none⟩) 3 3 ([(⟨#[97]⟩ : ByteArray), ⟨#[98]⟩, ⟨#[120]⟩].take 3) (by decide) (by omega) 4 _ q (by omega) (HB2.out.1.alloc (.cells ([(⟨#[97]⟩ : ByteArray), ⟨#[98]⟩, ⟨#[120]⟩].map Value.string).toArray 9)).rd (by have := HQ.out; show q + 124 ≤ _; omega) ((StrsA.lit wr [(⟨#[97]⟩ : ByteArray), ⟨#[98]⟩, ⟨#[120]⟩] (by have := HN.out; omega)).pre (by decide)))
        go_wp2_with fail
        refine HCALL.out.mono ?_
        rintro e w5 ⟨ecs, x, q5, rfl, hrd5, hq5, ht5, hx5, hl5, -⟩
        obtain ⟨xa, xc, rfl⟩ := exprP_form hx5
        have hD5 := (HB2.out.1.alloc (.cells ([(⟨#[97]⟩ : ByteArray), ⟨#[98]⟩, ⟨#[120]⟩].map Value.string).toArray 9)).step ht5 hrd5
        have HD5 := Lib.hid (hD5.alloc (.cells #[.int .i64 x.op, .int .i64 x.n, .string x.name, .slice xa x.kids.length xc] 29))
        have HE := Lib.hid (show ExprP 12 (fun b => wr.heap.size ≤ b ∧ b < w5.heap.size) (w5.alloc (.cells #[.int .i64 x.op, .int .i64 x.n, .string x.name, .slice xa x.kids.length xc] 29)) [.int .i64 x.op, .int .i64 x.n, .string x.name, .slice xa x.kids.length xc] x ∧ anyE longP 12 x = false ∧ (w5.alloc (.cells #[.int .i64 x.op, .int .i64 x.n, .string x.name, .slice xa x.kids.length xc] 29)).heap[w5.heap.size]? = some (.cells #[.int .i64 x.op, .int .i64 x.n, .string x.name, .slice xa x.kids.length xc] 29 (0, 0)) ∧ wr.heap.size ≤ w5.heap.size from
          ⟨exprP_below ((Below.refl _ _).alloc (Nat.le_refl _) _) (exprP_le (by omega) (exprP_mono (fun k h1 h => ⟨by rw [World.size_alloc] at h; omega, h1⟩) hx5)), by rw [anyE_deep hx5 (by omega)]; exact hl5, heap_alloc_new w5 _, by have := Turned.size (S := fun k => k = br ∨ (wr.alloc (.cells ([(⟨#[97]⟩ : ByteArray), ⟨#[98]⟩, ⟨#[120]⟩].map Value.string).toArray 9)).heap.size ≤ k) ht5; rw [World.size_alloc] at this; omega⟩)
        have HIA := Lib.hid (show ∀ i, (Value.slice ia 3 ic).ownBlock = some i → nb < i ∧ i < wr.heap.size from fun i hi => by have := HB2.out.1.own.lt i hi; omega)
        have HQ5 := Lib.hid (show q5 ≤ 144 by have := HQ.out; have h9 : costE 4 = 124 := rfl; omega)
        clear hrd5 hq5 ht5 hx5 hl5 hD5 HCALL
        go_upto_region 9 with fail
        obtain ⟨eb, heb⟩ : ∃ b, b = w5.heap.size := ⟨_, rfl⟩
        rw [← heb] at HE ⊢
        generalize w5.alloc (.cells #[.int .i64 x.op, .int .i64 x.n, .string x.name, .slice xa x.kids.length xc] 29) = W6 at HE HD5 ⊢
        clear heb
        go_wp2_with fail
        refine (pick_any W1 _ br a1 len1 cap1 bs1 q5 16 HD5.out.rd (by omega) hlen1 (by have := HQ5.out; omega)).mono ?_
        rintro e w7 ⟨v, _, _, rfl, hrd7, hg7⟩
        have HD7 := Lib.hid (HD5.out.step (TurnR.grown hg7) hrd7)
        have HE7 := Lib.hid (show ExprP 12 (fun b => wr.heap.size ≤ b ∧ b < eb) w7 [.int .i64 x.op, .int .i64 x.n, .string x.name, .slice xa x.kids.length xc] x ∧ w7.heap[eb]? = some (.cells #[.int .i64 x.op, .int .i64 x.n, .string x.name, .slice xa x.kids.length xc] 29 (0, 0)) ∧ eb < w7.heap.size by
          have hlt := HN.out
          have hes := (Array.getElem?_eq_some_iff.1 HE.out.2.2.1).1
          have hsz := hg7.size
          exact ⟨exprP_turned (T := fun k => k = br ∨ W6.heap.size ≤ k) (TurnR.grown hg7) (fun k h1 h2 h3 => by rcases h3 with h3 | h3 <;> omega) HE.out.1, ((TurnR.grown hg7).block hes (by have := HE.out.2.2.2; omega)).trans HE.out.2.2.1, by omega⟩)
        clear hrd7 hg7
        by_cases h0 : v = 0
        · subst h0
          have HCALL := Lib.hid (l2Bent_any W1 w7 br a1 len1 cap1 bs1 hlen1 (q5 + 1) HD7.out.rd (by have := HQ5.out; omega))
          go_wp2_with fail
          refine HCALL.out.mono ?_
          rintro e w8 ⟨ycs, y, q8, rfl, hrd8, hq8, ht8, hy8, hl8, -⟩
          obtain ⟨ya, yc, rfl⟩ := exprP_form hy8
          have HD8 := Lib.hid (HD7.out.step ht8 hrd8)
          have HER := Lib.hid (show w8.heap[eb]? = some (.cells #[.int .i64 x.op, .int .i64 x.n, .string x.name, .slice xa x.kids.length xc] 29 (0, 0)) from (ht8.block HE7.out.2.2 (by have := HE.out.2.2.2; have := HN.out; omega)).trans HE7.out.2.1)
          have HF := Lib.hid (show DFin W1 rb nb eb [.int .i64 y.op, .int .i64 y.n, .string y.name, .slice ya y.kids.length yc] y ia 3 ic is (w8.setCells eb 0 [.int .i64 y.op, .int .i64 y.n, .string y.name, .slice ya y.kids.length yc]) by
            have ht := turned_setCells (g := eb) [.int .i64 y.op, .int .i64 y.n, .string y.name, .slice ya y.kids.length yc] w8 0
            have hes := HE7.out.2.2
            have hlt := HN.out
            have hge := HE.out.2.2.2
            have hbase := HD8.out.rd.base
            have hb8 := HD8.out.rd.below.size
            refine ⟨HD8.out.rd.below.trans (ht.below (B := W1.heap.size) hb8 (fun k hk => by omega)), by omega, (heap_setCells_other (by omega) _ _ _).trans HD8.out.nrow, own_turned HD8.out.own ht (fun k hk h3 => by have := HIA.out k hk; omega), ?_, ?_, hl8, HB.out.2.1⟩
            · have := heap_setCells_mid (A := []) (B := [.int .i64 x.op, .int .i64 x.n, .string x.name, .slice xa x.kids.length xc]) (C := []) (vs := [.int .i64 y.op, .int .i64 y.n, .string y.name, .slice ya y.kids.length yc]) (o := 0) rfl rfl (by simpa using HER.out)
              simpa using this
            · exact exprP_mono (fun k _ h1 => by omega) (exprP_turned ht (fun k _ h1 h2 => by omega) hy8))
          clear hrd8 hq8 ht8 hy8 hl8 HCALL
          have k0 := cell_of_row _ _ 0 _ _ _ HER.out
          have k1 := cell_of_row _ _ 1 _ _ _ HER.out
          have k2 := cell_of_row _ _ 2 _ _ _ HER.out
          have k3 := cell_of_row _ _ 3 _ _ _ HER.out
          simp only [List.getElem?_toArray, List.getElem?_cons_zero, List.getElem?_cons_succ] at k0 k1 k2 k3
          have g0 := frozen_of_row _ _ 0 _ _ HER.out
          have g1 := frozen_of_row _ _ 1 _ _ HER.out
          have g2 := frozen_of_row _ _ 2 _ _ HER.out
          have g3 := frozen_of_row _ _ 3 _ _ HER.out
          rw [setCells4] at HF
          go_upto_region 17 with fail
          clear k0 k1 k2 k3 g0 g1 g2 g3
          generalize (((w8.setCell ⟨eb, 0, none⟩ (.int .i64 y.op)).setCell ⟨eb, 1, none⟩ (.int .i64 y.n)).setCell ⟨eb, 2, none⟩ (.string y.name)).setCell ⟨eb, 3, none⟩ (.slice ya y.kids.length yc) = W9 at HF ⊢
          have e0 := cell_of_row _ _ 0 _ _ _ HF.out.erow
          have e1 := cell_of_row _ _ 1 _ _ _ HF.out.erow
          have e2 := cell_of_row _ _ 2 _ _ _ HF.out.erow
          have e3 := cell_of_row _ _ 3 _ _ _ HF.out.erow
          simp only [List.getElem?_toArray, List.getElem?_cons_zero, List.getElem?_cons_succ] at e0 e1 e2 e3
          have c0 := cell_of_row _ _ 0 _ _ _ HF.out.row
          have c1 := cell_of_row _ _ 1 _ _ _ HF.out.row
          have c2 := cell_of_row _ _ 2 _ _ _ HF.out.row
          have c3 := cell_of_row _ _ 3 _ _ _ HF.out.row
          simp only [List.getElem?_toArray, List.getElem?_cons_zero, List.getElem?_cons_succ] at c0 c1 c2 c3
          have f0 := frozen_of_row _ _ 0 _ _ HF.out.row
          have f1 := frozen_of_row _ _ 1 _ _ HF.out.row
          have f2 := frozen_of_row _ _ 2 _ _ HF.out.row
          have f3 := frozen_of_row _ _ 3 _ _ HF.out.row
          go_wp2
          refine bodyPost_ret (results_cell3 rfl _ _ rb 29 #[.int .i64 y.op, .int .i64 y.n, .string y.name, .slice ya y.kids.length yc] (0, 0) _ rfl ?_ Tryd.underlying29 rfl (by kernel_rfl)) rfl ?_
          · exact HF.out.put
          have hdone := HF.out.done (nn := 3) (nc := 4) H0.out.1 H0.out.2 (by omega) (by omega)
          rw [setCells4] at hdone
          exact hdone
        have e00 : (v == 0) = false := by simpa using h0
        have HDF := Lib.hid (show ∀ (W : World) (ja : Option Addr) (jk jc : Nat) (js : List Int), (∃ T : Nat → Prop, Turned T w7 W ∧ ∀ k, T k → (nb < k ∧ k < wr.heap.size) ∨ w7.heap.size ≤ k) → W.ownsRow (nb + 1) 3 1 (.slice ja jk jc) jk (js.map (Value.int .i64)) → DFin W1 rb nb eb [.int .i64 x.op, .int .i64 x.n, .string x.name, .slice xa x.kids.length xc] x ja jk jc js W from fun W ja jk jc js hT hown => by
          obtain ⟨T, ht, hT⟩ := hT
          have hes := HE7.out.2.2
          have hlt := HN.out
          have hge := HE.out.2.2.2
          have hbase := HD7.out.rd.base
          have hb8 := HD7.out.rd.below.size
          refine ⟨HD7.out.rd.below.trans (ht.below (B := W1.heap.size) hb8 (fun k hk => by have := hT k hk; omega)), by omega, (ht.block nb HD7.out.nsize (fun h => by have := hT nb h; have := HD7.out.nsize; omega)).trans HD7.out.nrow, hown, (ht.block eb hes (fun h => by have := hT eb h; omega)).trans HE7.out.2.1, ?_, HE.out.2.1, HB.out.2.1⟩
          exact exprP_mono (fun k _ h1 => by have := h1.1; omega) (exprP_turned ht (fun k h1 h2 h3 => by have := hT k h3; have := h2.1; omega) HE7.out.1))
        by_cases h1 : v = 1
        · subst h1
          clear h0
          have HDA := Lib.hid (HD7.out.alloc (.cells #[.int .i64 1] 3))
          go_wp2_with (at_builtin; refine app_ints rfl (.tmp 45) (.tmp 46) rfl (nb + 1) _ 3 _ rfl HDA.out.own _ 1 1 [1] rfl rfl (rowAt_laidE' w7 [.int .i64 1] 3) (by simp) (by omega) HDA.out.nsize ?_; intro a9 c9 w9 hown9 hg9 hlies9; (have HF := Lib.hid (HDF.out w9 a9 (3 + 1) c9 (is ++ [1]) ⟨fun k => (Value.slice ia 3 ic).ownBlock = some k ∨ w7.heap.size ≤ k, Turned.trans (b := w7.alloc (.cells #[.int .i64 1] 3)) (turned_of_below ((Below.refl w7.heap.size _).alloc (Nat.le_refl _) _) (fun k h1 h2 => .inr h1)) (turned_of_grown hg9 (fun k hk => .inl hk)), fun k hk => by rcases hk with hk | hk; exact .inl (HIA.out k hk); exact .inr hk⟩ (by rw [List.map_append]; exact hown9))); (have e0 := cell_of_row _ _ 0 _ _ _ HF.out.erow); (have e1 := cell_of_row _ _ 1 _ _ _ HF.out.erow); (have e2 := cell_of_row _ _ 2 _ _ _ HF.out.erow); (have e3 := cell_of_row _ _ 3 _ _ _ HF.out.erow); (simp only [List.getElem?_toArray, List.getElem?_cons_zero, List.getElem?_cons_succ] at e0 e1 e2 e3); (have c0 := cell_of_row _ _ 0 _ _ _ HF.out.row); (have c1 := cell_of_row _ _ 1 _ _ _ HF.out.row); (have c2 := cell_of_row _ _ 2 _ _ _ HF.out.row); (have c3 := cell_of_row _ _ 3 _ _ _ HF.out.row); (simp only [List.getElem?_toArray, List.getElem?_cons_zero, List.getElem?_cons_succ] at c0 c1 c2 c3); (have f0 := frozen_of_row _ _ 0 _ _ HF.out.row); (have f1 := frozen_of_row _ _ 1 _ _ HF.out.row); (have f2 := frozen_of_row _ _ 2 _ _ HF.out.row); (have f3 := frozen_of_row _ _ 3 _ _ HF.out.row); clear hown9 hg9 hlies9)
          refine bodyPost_ret (results_cell3 rfl _ _ rb 29 #[.int .i64 x.op, .int .i64 x.n, .string x.name, .slice xa x.kids.length xc] (0, 0) _ rfl ?_ Tryd.underlying29 rfl (by kernel_rfl)) rfl ?_
          · exact HF.out.put
          have hdone := HF.out.done (nn := 3) (nc := 4) H0.out.1 H0.out.2 (by omega) (by omega)
          rw [setCells4] at hdone
          exact hdone
        have e01 : (v == 1) = false := by simpa using h1
        by_cases h2 : v = 2
        · subst h2
          clear h0 h1
          obtain ⟨ig, rfl⟩ : ∃ g, ia = some (⟨g, 0, none⟩ : Addr) := by
            rcases HD7.out.own.2 with ⟨_, h9⟩ | ⟨g, cap9, cur, hv, _⟩
            · cases h9
            · simp only [Value.slice.injEq] at hv
              exact ⟨g, hv.1⟩
          have HIG := Lib.hid (HIA.out ig rfl)
          go_wp2_with fail
          refine (num_any W1 _ br a1 len1 cap1 bs1 (q5 + 1) w7.heap.size 2 2 [-1, 256] (HD7.out.alloc _).rd (litI w7 [-1, 256]) (by have := HD7.out.rd.lt; omega) (by omega) hlen1 (by have := HQ5.out; omega)).mono ?_
          rintro e w8 ⟨u, -, rfl, hrd8, hg8⟩
          have HD8 := Lib.hid ((HD7.out.alloc (.cells ([-1, 256].map (Value.int .i64)).toArray 3)).step (TurnR.grown hg8) hrd8)
          have hlen9 : (is.map (Value.int .i64)).length = 3 := by have := HD8.out.own.1; simpa using this
          have HLN := Lib.hid hlen9
          have hst := HD8.out.own.stored 0 (.int .i64 u)
          have HF := Lib.hid (show DFin W1 rb nb eb [.int .i64 x.op, .int .i64 x.n, .string x.name, .slice xa x.kids.length xc] x (some ⟨ig, 0, none⟩) 3 ic (is.set 0 u) (w8.setCell ⟨ig, 0, none⟩ (.int .i64 u)) by
            have hbt := (TurnR.alloc br w7 (.cells ([-1, 256].map (Value.int .i64)).toArray 3)).trans (TurnR.grown hg8)
            have hput := turned_store w8 ig 0 (.int .i64 u)
            have hes := HE7.out.2.2
            have hlt := HN.out
            have hge := HE.out.2.2.2
            have hbase := HD7.out.rd.base
            have hig := HIG.out
            have hs8 := Turned.size (S := fun k => k = br ∨ w7.heap.size ≤ k) hbt
            refine ⟨?_, by omega, ?_, by rw [List.map_set]; exact hst.1, ?_, ?_, HE.out.2.1, HB.out.2.1⟩
            · exact HD8.out.rd.below.setCell (show W1.heap.size ≤ ig by omega) _
            · exact (heap_setCell_other _ _ _ _ (by show nb ≠ ig; omega)).trans HD8.out.nrow
            · exact (heap_setCell_other _ _ _ _ (by show eb ≠ ig; omega)).trans ((hbt.block hes (by omega)).trans HE7.out.2.1)
            · exact exprP_mono (fun k _ h1 => by have := h1.1; omega) (exprP_turned hput (fun k h1 h2 h3 => by have := h2.1; omega) (exprP_turned (T := fun k => k = br ∨ w7.heap.size ≤ k) hbt (fun k h1 h2 h3 => by obtain ⟨j1, j2⟩ := h2; rcases h3 with h3 | h3 <;> omega) HE7.out.1)))
          have i0 : ∃ u0, w8.cell? ⟨ig, 0, none⟩ = some u0 := by
            rw [HD8.out.own.cellAt 0 (by decide)]
            exact ⟨_, List.getElem?_eq_getElem (by rw [hlen9]; decide)⟩
          obtain ⟨u0, i0⟩ := i0
          have j0 := HD8.out.own.frozenAt 0
          clear hrd8 hg8 hlen9 hst
          go_upto_region 17 with fail
          clear i0 j0
          generalize w8.setCell ⟨ig, 0, none⟩ (.int .i64 u) = W9 at HF ⊢
          have e0 := cell_of_row _ _ 0 _ _ _ HF.out.erow
          have e1 := cell_of_row _ _ 1 _ _ _ HF.out.erow
          have e2 := cell_of_row _ _ 2 _ _ _ HF.out.erow
          have e3 := cell_of_row _ _ 3 _ _ _ HF.out.erow
          simp only [List.getElem?_toArray, List.getElem?_cons_zero, List.getElem?_cons_succ] at e0 e1 e2 e3
          have c0 := cell_of_row _ _ 0 _ _ _ HF.out.row
          have c1 := cell_of_row _ _ 1 _ _ _ HF.out.row
          have c2 := cell_of_row _ _ 2 _ _ _ HF.out.row
          have c3 := cell_of_row _ _ 3 _ _ _ HF.out.row
          simp only [List.getElem?_toArray, List.getElem?_cons_zero, List.getElem?_cons_succ] at c0 c1 c2 c3
          have f0 := frozen_of_row _ _ 0 _ _ HF.out.row
          have f1 := frozen_of_row _ _ 1 _ _ HF.out.row
          have f2 := frozen_of_row _ _ 2 _ _ HF.out.row
          have f3 := frozen_of_row _ _ 3 _ _ HF.out.row
          go_wp2
          refine bodyPost_ret (results_cell3 rfl _ _ rb 29 #[.int .i64 x.op, .int .i64 x.n, .string x.name, .slice xa x.kids.length xc] (0, 0) _ rfl ?_ Tryd.underlying29 rfl (by kernel_rfl)) rfl ?_
          · exact HF.out.put
          have hdone := HF.out.done (nn := 3) (nc := 4) H0.out.1 H0.out.2 (by omega) (by omega)
          rw [setCells4] at hdone
          exact hdone
        have e02 : (v == 2) = false := by simpa using h2
        clear h0 h1 h2
        have HF := Lib.hid (HDF.out w7 ia 3 ic is ⟨fun _ => False, Turned.refl _ _, fun _ h => h.elim⟩ HD7.out.own)
        go_upto_region 17 with fail
        have e0 := cell_of_row _ _ 0 _ _ _ HF.out.erow
        have e1 := cell_of_row _ _ 1 _ _ _ HF.out.erow
        have e2 := cell_of_row _ _ 2 _ _ _ HF.out.erow
        have e3 := cell_of_row _ _ 3 _ _ _ HF.out.erow
        simp only [List.getElem?_toArray, List.getElem?_cons_zero, List.getElem?_cons_succ] at e0 e1 e2 e3
        have c0 := cell_of_row _ _ 0 _ _ _ HF.out.row
        have c1 := cell_of_row _ _ 1 _ _ _ HF.out.row
        have c2 := cell_of_row _ _ 2 _ _ _ HF.out.row
        have c3 := cell_of_row _ _ 3 _ _ _ HF.out.row
        simp only [List.getElem?_toArray, List.getElem?_cons_zero, List.getElem?_cons_succ] at c0 c1 c2 c3
        have f0 := frozen_of_row _ _ 0 _ _ HF.out.row
        have f1 := frozen_of_row _ _ 1 _ _ HF.out.row
        have f2 := frozen_of_row _ _ 2 _ _ HF.out.row
        have f3 := frozen_of_row _ _ 3 _ _ HF.out.row
        go_wp2
        refine bodyPost_ret (results_cell3 rfl _ _ rb 29 #[.int .i64 x.op, .int .i64 x.n, .string x.name, .slice xa x.kids.length xc] (0, 0) _ rfl ?_ Tryd.underlying29 rfl (by kernel_rfl)) rfl ?_
        · exact HF.out.put
        have hdone := HF.out.done (nn := 3) (nc := 4) H0.out.1 H0.out.2 (by omega) (by omega)
        rw [setCells4] at hdone
        exact hdone
  · go_upto_region 3 with fail
    have HD := Lib.hid (show DSt W1 br a1 len1 cap1 bs1 nb 1 (some ⟨w3.heap.size, 0, none⟩) 0 0 [] (w3.alloc (.cells #[] 3)) from
      ⟨HRD3.out.alloc _, HN3.out.1, (heap_alloc_old _ _ HN3.out.2.2).trans HN3.out.2.1, own_empty w3 (nb + 1) 3 1 HN3.out.2.2⟩)
    go_upto_region 4 with fail
    generalize w3.alloc (.cells #[] 3) = W4 at HD ⊢
    obtain ⟨ia0, hia⟩ : ∃ x, x = some (⟨w3.heap.size, 0, none⟩ : Addr) := ⟨_, rfl⟩
    rw [← hia] at HD ⊢
    clear hia
    go_wp2_with fail
    go_loopg [7, 19] 4 (fun G s i wr => ∃ (ia : Option Addr) (k ic : Nat) (is : List Int) (q : Nat), k + G = 4 ∧ s = .slice ia k ic ∧ i = .int .i64 k ∧ Hid (DSt W1 br a1 len1 cap1 bs1 nb q ia k ic is wr ∧ q ≤ 1 + 2 * k))
    case atStart => exact ⟨ia0, 0, 0, [], 1, by omega, rfl, rfl, Lib.hid ⟨HD.out, by omega⟩⟩
    case round =>
      obtain ⟨ia, k, ic, is, q, hk, rfl, rfl, HB2⟩ := hrel
      clear HD
      by_cases hlt : 0 < gk
      · have hki : (k : Int) < 4 := by omega
        have HKQ := Lib.hid (show k ≤ 4 ∧ q ≤ 9 by have := HB2.out.2; omega)
        go_wp2_with fail
        refine (pick_any W1 _ br a1 len1 cap1 bs1 q 256 HB2.out.1.rd (by omega) hlen1 (by have := HKQ.out; omega)).mono ?_
        rintro e w5 ⟨v, _, _, rfl, hrd5, hg5⟩
        have HD5 := Lib.hid (HB2.out.1.step (TurnR.grown hg5) hrd5)
        clear hrd5 hg5
        go_wp2_with fail
        refine (num_any W1 _ br a1 len1 cap1 bs1 (q + 1) w5.heap.size 6 6 [0, 1, 2, 16, 255, v] (HD5.out.alloc _).rd (litI w5 [0, 1, 2, 16, 255, v]) (by have := HD5.out.rd.lt; omega) (by omega) hlen1 (by have := HKQ.out; omega)).mono ?_
        rintro e w6 ⟨u, -, rfl, hrd6, hg6⟩
        have HD6 := Lib.hid (((HD5.out.alloc (.cells ([0, 1, 2, 16, 255, v].map (Value.int .i64)).toArray 3)).step (TurnR.grown hg6) hrd6).alloc (.cells #[.int .i64 u] 3))
        clear hrd6 hg6
        go_wp2_with (at_builtin; refine app_ints rfl (.tmp 21) (.tmp 27) rfl (nb + 1) _ k _ rfl HD6.out.own _ 1 1 [u] rfl rfl (rowAt_laidE' w6 [.int .i64 u] 3) (by simp) (by have := HKQ.out; omega) HD6.out.nsize ?_; intro a9 c9 w9 hown9 hg9 hlies9; (have HP9 := Lib.hid (HD6.out.push hown9 hg9)); clear hown9 hg9 hlies9)
        go_roundg (gk - 1)
        case measure => omega
        case rel => exact ⟨_, k + 1, _, _, _, by omega, rfl, by go_num, Lib.hid ⟨HP9.out, by have := HB2.out.2; omega⟩⟩
      · obtain rfl : gk = 0 := by omega
        obtain rfl : k = 4 := by omega
        have HQ := Lib.hid (show q ≤ 20 by have := HB2.out.2; omega)
        have HN := Lib.hid (And.intro HB2.out.1.lt HB2.out.1.nsize)
        have HCALL := Lib.hid (l2Expr_any W1 br a1 len1 cap1 bs1 hlen1 (some ⟨wr.heap.size, 0, none⟩) 3 3 ([(⟨#[97]⟩ : ByteArray), ⟨#[98]⟩, ⟨#[120]⟩].take 3) (by decide) (by omega) 4 _ q (by omega) (HB2.out.1.alloc (.cells ([(⟨#[97]⟩ : ByteArray), ⟨#[98]⟩, ⟨#[120]⟩].map Value.string).toArray 9)).rd (by have := HQ.out; show q + 124 ≤ _; omega) ((StrsA.lit wr [(⟨#[97]⟩ : ByteArray), ⟨#[98]⟩, ⟨#[120]⟩] (by have := HN.out; omega)).pre (by decide)))
        go_wp2_with fail
        refine HCALL.out.mono ?_
        rintro e w5 ⟨ecs, x, q5, rfl, hrd5, hq5, ht5, hx5, hl5, -⟩
        obtain ⟨xa, xc, rfl⟩ := exprP_form hx5
        have hD5 := (HB2.out.1.alloc (.cells ([(⟨#[97]⟩ : ByteArray), ⟨#[98]⟩, ⟨#[120]⟩].map Value.string).toArray 9)).step ht5 hrd5
        have HD5 := Lib.hid (hD5.alloc (.cells #[.int .i64 x.op, .int .i64 x.n, .string x.name, .slice xa x.kids.length xc] 29))
        have HE := Lib.hid (show ExprP 12 (fun b => wr.heap.size ≤ b ∧ b < w5.heap.size) (w5.alloc (.cells #[.int .i64 x.op, .int .i64 x.n, .string x.name, .slice xa x.kids.length xc] 29)) [.int .i64 x.op, .int .i64 x.n, .string x.name, .slice xa x.kids.length xc] x ∧ anyE longP 12 x = false ∧ (w5.alloc (.cells #[.int .i64 x.op, .int .i64 x.n, .string x.name, .slice xa x.kids.length xc] 29)).heap[w5.heap.size]? = some (.cells #[.int .i64 x.op, .int .i64 x.n, .string x.name, .slice xa x.kids.length xc] 29 (0, 0)) ∧ wr.heap.size ≤ w5.heap.size from
          ⟨exprP_below ((Below.refl _ _).alloc (Nat.le_refl _) _) (exprP_le (by omega) (exprP_mono (fun k h1 h => ⟨by rw [World.size_alloc] at h; omega, h1⟩) hx5)), by rw [anyE_deep hx5 (by omega)]; exact hl5, heap_alloc_new w5 _, by have := Turned.size (S := fun k => k = br ∨ (wr.alloc (.cells ([(⟨#[97]⟩ : ByteArray), ⟨#[98]⟩, ⟨#[120]⟩].map Value.string).toArray 9)).heap.size ≤ k) ht5; rw [World.size_alloc] at this; omega⟩)
        have HIA := Lib.hid (show ∀ i, (Value.slice ia 4 ic).ownBlock = some i → nb < i ∧ i < wr.heap.size from fun i hi => by have := HB2.out.1.own.lt i hi; omega)
        have HQ5 := Lib.hid (show q5 ≤ 144 by have := HQ.out; have h9 : costE 4 = 124 := rfl; omega)
        clear hrd5 hq5 ht5 hx5 hl5 hD5 HCALL
        go_upto_region 9 with fail
        obtain ⟨eb, heb⟩ : ∃ b, b = w5.heap.size := ⟨_, rfl⟩
        rw [← heb] at HE ⊢
        generalize w5.alloc (.cells #[.int .i64 x.op, .int .i64 x.n, .string x.name, .slice xa x.kids.length xc] 29) = W6 at HE HD5 ⊢
        clear heb
        go_wp2_with fail
        refine (pick_any W1 _ br a1 len1 cap1 bs1 q5 16 HD5.out.rd (by omega) hlen1 (by have := HQ5.out; omega)).mono ?_
        rintro e w7 ⟨v, _, _, rfl, hrd7, hg7⟩
        have HD7 := Lib.hid (HD5.out.step (TurnR.grown hg7) hrd7)
        have HE7 := Lib.hid (show ExprP 12 (fun b => wr.heap.size ≤ b ∧ b < eb) w7 [.int .i64 x.op, .int .i64 x.n, .string x.name, .slice xa x.kids.length xc] x ∧ w7.heap[eb]? = some (.cells #[.int .i64 x.op, .int .i64 x.n, .string x.name, .slice xa x.kids.length xc] 29 (0, 0)) ∧ eb < w7.heap.size by
          have hlt := HN.out
          have hes := (Array.getElem?_eq_some_iff.1 HE.out.2.2.1).1
          have hsz := hg7.size
          exact ⟨exprP_turned (T := fun k => k = br ∨ W6.heap.size ≤ k) (TurnR.grown hg7) (fun k h1 h2 h3 => by rcases h3 with h3 | h3 <;> omega) HE.out.1, ((TurnR.grown hg7).block hes (by have := HE.out.2.2.2; omega)).trans HE.out.2.2.1, by omega⟩)
        clear hrd7 hg7
        by_cases h0 : v = 0
        · subst h0
          have HCALL := Lib.hid (l2Bent_any W1 w7 br a1 len1 cap1 bs1 hlen1 (q5 + 1) HD7.out.rd (by have := HQ5.out; omega))
          go_wp2_with fail
          refine HCALL.out.mono ?_
          rintro e w8 ⟨ycs, y, q8, rfl, hrd8, hq8, ht8, hy8, hl8, -⟩
          obtain ⟨ya, yc, rfl⟩ := exprP_form hy8
          have HD8 := Lib.hid (HD7.out.step ht8 hrd8)
          have HER := Lib.hid (show w8.heap[eb]? = some (.cells #[.int .i64 x.op, .int .i64 x.n, .string x.name, .slice xa x.kids.length xc] 29 (0, 0)) from (ht8.block HE7.out.2.2 (by have := HE.out.2.2.2; have := HN.out; omega)).trans HE7.out.2.1)
          have HF := Lib.hid (show DFin W1 rb nb eb [.int .i64 y.op, .int .i64 y.n, .string y.name, .slice ya y.kids.length yc] y ia 4 ic is (w8.setCells eb 0 [.int .i64 y.op, .int .i64 y.n, .string y.name, .slice ya y.kids.length yc]) by
            have ht := turned_setCells (g := eb) [.int .i64 y.op, .int .i64 y.n, .string y.name, .slice ya y.kids.length yc] w8 0
            have hes := HE7.out.2.2
            have hlt := HN.out
            have hge := HE.out.2.2.2
            have hbase := HD8.out.rd.base
            have hb8 := HD8.out.rd.below.size
            refine ⟨HD8.out.rd.below.trans (ht.below (B := W1.heap.size) hb8 (fun k hk => by omega)), by omega, (heap_setCells_other (by omega) _ _ _).trans HD8.out.nrow, own_turned HD8.out.own ht (fun k hk h3 => by have := HIA.out k hk; omega), ?_, ?_, hl8, HB.out.2.1⟩
            · have := heap_setCells_mid (A := []) (B := [.int .i64 x.op, .int .i64 x.n, .string x.name, .slice xa x.kids.length xc]) (C := []) (vs := [.int .i64 y.op, .int .i64 y.n, .string y.name, .slice ya y.kids.length yc]) (o := 0) rfl rfl (by simpa using HER.out)
              simpa using this
            · exact exprP_mono (fun k _ h1 => by omega) (exprP_turned ht (fun k _ h1 h2 => by omega) hy8))
          clear hrd8 hq8 ht8 hy8 hl8 HCALL
          have k0 := cell_of_row _ _ 0 _ _ _ HER.out
          have k1 := cell_of_row _ _ 1 _ _ _ HER.out
          have k2 := cell_of_row _ _ 2 _ _ _ HER.out
          have k3 := cell_of_row _ _ 3 _ _ _ HER.out
          simp only [List.getElem?_toArray, List.getElem?_cons_zero, List.getElem?_cons_succ] at k0 k1 k2 k3
          have g0 := frozen_of_row _ _ 0 _ _ HER.out
          have g1 := frozen_of_row _ _ 1 _ _ HER.out
          have g2 := frozen_of_row _ _ 2 _ _ HER.out
          have g3 := frozen_of_row _ _ 3 _ _ HER.out
          rw [setCells4] at HF
          go_upto_region 17 with fail
          clear k0 k1 k2 k3 g0 g1 g2 g3
          generalize (((w8.setCell ⟨eb, 0, none⟩ (.int .i64 y.op)).setCell ⟨eb, 1, none⟩ (.int .i64 y.n)).setCell ⟨eb, 2, none⟩ (.string y.name)).setCell ⟨eb, 3, none⟩ (.slice ya y.kids.length yc) = W9 at HF ⊢
          have e0 := cell_of_row _ _ 0 _ _ _ HF.out.erow
          have e1 := cell_of_row _ _ 1 _ _ _ HF.out.erow
          have e2 := cell_of_row _ _ 2 _ _ _ HF.out.erow
          have e3 := cell_of_row _ _ 3 _ _ _ HF.out.erow
          simp only [List.getElem?_toArray, List.getElem?_cons_zero, List.getElem?_cons_succ] at e0 e1 e2 e3
          have c0 := cell_of_row _ _ 0 _ _ _ HF.out.row
          have c1 := cell_of_row _ _ 1 _ _ _ HF.out.row
          have c2 := cell_of_row _ _ 2 _ _ _ HF.out.row
          have c3 := cell_of_row _ _ 3 _ _ _ HF.out.row
          simp only [List.getElem?_toArray, List.getElem?_cons_zero, List.getElem?_cons_succ] at c0 c1 c2 c3
          have f0 := frozen_of_row _ _ 0 _ _ HF.out.row
          have f1 := frozen_of_row _ _ 1 _ _ HF.out.row
          have f2 := frozen_of_row _ _ 2 _ _ HF.out.row
          have f3 := frozen_of_row _ _ 3 _ _ HF.out.row
          go_wp2
          refine bodyPost_ret (results_cell3 rfl _ _ rb 29 #[.int .i64 y.op, .int .i64 y.n, .string y.name, .slice ya y.kids.length yc] (0, 0) _ rfl ?_ Tryd.underlying29 rfl (by kernel_rfl)) rfl ?_
          · exact HF.out.put
          have hdone := HF.out.done (nn := 4) (nc := 4) H0.out.1 H0.out.2 (by omega) (by omega)
          rw [setCells4] at hdone
          exact hdone
        have e00 : (v == 0) = false := by simpa using h0
        have HDF := Lib.hid (show ∀ (W : World) (ja : Option Addr) (jk jc : Nat) (js : List Int), (∃ T : Nat → Prop, Turned T w7 W ∧ ∀ k, T k → (nb < k ∧ k < wr.heap.size) ∨ w7.heap.size ≤ k) → W.ownsRow (nb + 1) 3 1 (.slice ja jk jc) jk (js.map (Value.int .i64)) → DFin W1 rb nb eb [.int .i64 x.op, .int .i64 x.n, .string x.name, .slice xa x.kids.length xc] x ja jk jc js W from fun W ja jk jc js hT hown => by
          obtain ⟨T, ht, hT⟩ := hT
          have hes := HE7.out.2.2
          have hlt := HN.out
          have hge := HE.out.2.2.2
          have hbase := HD7.out.rd.base
          have hb8 := HD7.out.rd.below.size
          refine ⟨HD7.out.rd.below.trans (ht.below (B := W1.heap.size) hb8 (fun k hk => by have := hT k hk; omega)), by omega, (ht.block nb HD7.out.nsize (fun h => by have := hT nb h; have := HD7.out.nsize; omega)).trans HD7.out.nrow, hown, (ht.block eb hes (fun h => by have := hT eb h; omega)).trans HE7.out.2.1, ?_, HE.out.2.1, HB.out.2.1⟩
          exact exprP_mono (fun k _ h1 => by have := h1.1; omega) (exprP_turned ht (fun k h1 h2 h3 => by have := hT k h3; have := h2.1; omega) HE7.out.1))
        by_cases h1 : v = 1
        · subst h1
          clear h0
          have HDA := Lib.hid (HD7.out.alloc (.cells #[.int .i64 1] 3))
          go_wp2_with (at_builtin; refine app_ints rfl (.tmp 45) (.tmp 46) rfl (nb + 1) _ 4 _ rfl HDA.out.own _ 1 1 [1] rfl rfl (rowAt_laidE' w7 [.int .i64 1] 3) (by simp) (by omega) HDA.out.nsize ?_; intro a9 c9 w9 hown9 hg9 hlies9; (have HF := Lib.hid (HDF.out w9 a9 (4 + 1) c9 (is ++ [1]) ⟨fun k => (Value.slice ia 4 ic).ownBlock = some k ∨ w7.heap.size ≤ k, Turned.trans (b := w7.alloc (.cells #[.int .i64 1] 3)) (turned_of_below ((Below.refl w7.heap.size _).alloc (Nat.le_refl _) _) (fun k h1 h2 => .inr h1)) (turned_of_grown hg9 (fun k hk => .inl hk)), fun k hk => by rcases hk with hk | hk; exact .inl (HIA.out k hk); exact .inr hk⟩ (by rw [List.map_append]; exact hown9))); (have e0 := cell_of_row _ _ 0 _ _ _ HF.out.erow); (have e1 := cell_of_row _ _ 1 _ _ _ HF.out.erow); (have e2 := cell_of_row _ _ 2 _ _ _ HF.out.erow); (have e3 := cell_of_row _ _ 3 _ _ _ HF.out.erow); (simp only [List.getElem?_toArray, List.getElem?_cons_zero, List.getElem?_cons_succ] at e0 e1 e2 e3); (have c0 := cell_of_row _ _ 0 _ _ _ HF.out.row); (have c1 := cell_of_row _ _ 1 _ _ _ HF.out.row); (have c2 := cell_of_row _ _ 2 _ _ _ HF.out.row); (have c3 := cell_of_row _ _ 3 _ _ _ HF.out.row); (simp only [List.getElem?_toArray, List.getElem?_cons_zero, List.getElem?_cons_succ] at c0 c1 c2 c3); (have f0 := frozen_of_row _ _ 0 _ _ HF.out.row); (have f1 := frozen_of_row _ _ 1 _ _ HF.out.row); (have f2 := frozen_of_row _ _ 2 _ _ HF.out.row); (have f3 := frozen_of_row _ _ 3 _ _ HF.out.row); clear hown9 hg9 hlies9)
          refine bodyPost_ret (results_cell3 rfl _ _ rb 29 #[.int .i64 x.op, .int .i64 x.n, .string x.name, .slice xa x.kids.length xc] (0, 0) _ rfl ?_ Tryd.underlying29 rfl (by kernel_rfl)) rfl ?_
          · exact HF.out.put
          have hdone := HF.out.done (nn := 4) (nc := 4) H0.out.1 H0.out.2 (by omega) (by omega)
          rw [setCells4] at hdone
          exact hdone
        have e01 : (v == 1) = false := by simpa using h1
        by_cases h2 : v = 2
        · subst h2
          clear h0 h1
          obtain ⟨ig, rfl⟩ : ∃ g, ia = some (⟨g, 0, none⟩ : Addr) := by
            rcases HD7.out.own.2 with ⟨_, h9⟩ | ⟨g, cap9, cur, hv, _⟩
            · cases h9
            · simp only [Value.slice.injEq] at hv
              exact ⟨g, hv.1⟩
          have HIG := Lib.hid (HIA.out ig rfl)
          go_wp2_with fail
          refine (num_any W1 _ br a1 len1 cap1 bs1 (q5 + 1) w7.heap.size 2 2 [-1, 256] (HD7.out.alloc _).rd (litI w7 [-1, 256]) (by have := HD7.out.rd.lt; omega) (by omega) hlen1 (by have := HQ5.out; omega)).mono ?_
          rintro e w8 ⟨u, -, rfl, hrd8, hg8⟩
          have HD8 := Lib.hid ((HD7.out.alloc (.cells ([-1, 256].map (Value.int .i64)).toArray 3)).step (TurnR.grown hg8) hrd8)
          have hlen9 : (is.map (Value.int .i64)).length = 4 := by have := HD8.out.own.1; simpa using this
          have HLN := Lib.hid hlen9
          have hst := HD8.out.own.stored 0 (.int .i64 u)
          have HF := Lib.hid (show DFin W1 rb nb eb [.int .i64 x.op, .int .i64 x.n, .string x.name, .slice xa x.kids.length xc] x (some ⟨ig, 0, none⟩) 4 ic (is.set 0 u) (w8.setCell ⟨ig, 0, none⟩ (.int .i64 u)) by
            have hbt := (TurnR.alloc br w7 (.cells ([-1, 256].map (Value.int .i64)).toArray 3)).trans (TurnR.grown hg8)
            have hput := turned_store w8 ig 0 (.int .i64 u)
            have hes := HE7.out.2.2
            have hlt := HN.out
            have hge := HE.out.2.2.2
            have hbase := HD7.out.rd.base
            have hig := HIG.out
            have hs8 := Turned.size (S := fun k => k = br ∨ w7.heap.size ≤ k) hbt
            refine ⟨?_, by omega, ?_, by rw [List.map_set]; exact hst.1, ?_, ?_, HE.out.2.1, HB.out.2.1⟩
            · exact HD8.out.rd.below.setCell (show W1.heap.size ≤ ig by omega) _
            · exact (heap_setCell_other _ _ _ _ (by show nb ≠ ig; omega)).trans HD8.out.nrow
            · exact (heap_setCell_other _ _ _ _ (by show eb ≠ ig; omega)).trans ((hbt.block hes (by omega)).trans HE7.out.2.1)
            · exact exprP_mono (fun k _ h1 => by have := h1.1; omega) (exprP_turned hput (fun k h1 h2 h3 => by have := h2.1; omega) (exprP_turned (T := fun k => k = br ∨ w7.heap.size ≤ k) hbt (fun k h1 h2 h3 => by obtain ⟨j1, j2⟩ := h2; rcases h3 with h3 | h3 <;> omega) HE7.out.1)))
          have i0 : ∃ u0, w8.cell? ⟨ig, 0, none⟩ = some u0 := by
            rw [HD8.out.own.cellAt 0 (by decide)]
            exact ⟨_, List.getElem?_eq_getElem (by rw [hlen9]; decide)⟩
          obtain ⟨u0, i0⟩ := i0
          have j0 := HD8.out.own.frozenAt 0
          clear hrd8 hg8 hlen9 hst
          go_upto_region 17 with fail
          clear i0 j0
          generalize w8.setCell ⟨ig, 0, none⟩ (.int .i64 u) = W9 at HF ⊢
          have e0 := cell_of_row _ _ 0 _ _ _ HF.out.erow
          have e1 := cell_of_row _ _ 1 _ _ _ HF.out.erow
          have e2 := cell_of_row _ _ 2 _ _ _ HF.out.erow
          have e3 := cell_of_row _ _ 3 _ _ _ HF.out.erow
          simp only [List.getElem?_toArray, List.getElem?_cons_zero, List.getElem?_cons_succ] at e0 e1 e2 e3
          have c0 := cell_of_row _ _ 0 _ _ _ HF.out.row
          have c1 := cell_of_row _ _ 1 _ _ _ HF.out.row
          have c2 := cell_of_row _ _ 2 _ _ _ HF.out.row
          have c3 := cell_of_row _ _ 3 _ _ _ HF.out.row
          simp only [List.getElem?_toArray, List.getElem?_cons_zero, List.getElem?_cons_succ] at c0 c1 c2 c3
          have f0 := frozen_of_row _ _ 0 _ _ HF.out.row
          have f1 := frozen_of_row _ _ 1 _ _ HF.out.row
          have f2 := frozen_of_row _ _ 2 _ _ HF.out.row
          have f3 := frozen_of_row _ _ 3 _ _ HF.out.row
          go_wp2
          refine bodyPost_ret (results_cell3 rfl _ _ rb 29 #[.int .i64 x.op, .int .i64 x.n, .string x.name, .slice xa x.kids.length xc] (0, 0) _ rfl ?_ Tryd.underlying29 rfl (by kernel_rfl)) rfl ?_
          · exact HF.out.put
          have hdone := HF.out.done (nn := 4) (nc := 4) H0.out.1 H0.out.2 (by omega) (by omega)
          rw [setCells4] at hdone
          exact hdone
        have e02 : (v == 2) = false := by simpa using h2
        clear h0 h1 h2
        have HF := Lib.hid (HDF.out w7 ia 4 ic is ⟨fun _ => False, Turned.refl _ _, fun _ h => h.elim⟩ HD7.out.own)
        go_upto_region 17 with fail
        have e0 := cell_of_row _ _ 0 _ _ _ HF.out.erow
        have e1 := cell_of_row _ _ 1 _ _ _ HF.out.erow
        have e2 := cell_of_row _ _ 2 _ _ _ HF.out.erow
        have e3 := cell_of_row _ _ 3 _ _ _ HF.out.erow
        simp only [List.getElem?_toArray, List.getElem?_cons_zero, List.getElem?_cons_succ] at e0 e1 e2 e3
        have c0 := cell_of_row _ _ 0 _ _ _ HF.out.row
        have c1 := cell_of_row _ _ 1 _ _ _ HF.out.row
        have c2 := cell_of_row _ _ 2 _ _ _ HF.out.row
        have c3 := cell_of_row _ _ 3 _ _ _ HF.out.row
        simp only [List.getElem?_toArray, List.getElem?_cons_zero, List.getElem?_cons_succ] at c0 c1 c2 c3
        have f0 := frozen_of_row _ _ 0 _ _ HF.out.row
        have f1 := frozen_of_row _ _ 1 _ _ HF.out.row
        have f2 := frozen_of_row _ _ 2 _ _ HF.out.row
        have f3 := frozen_of_row _ _ 3 _ _ HF.out.row
        go_wp2
        refine bodyPost_ret (results_cell3 rfl _ _ rb 29 #[.int .i64 x.op, .int .i64 x.n, .string x.name, .slice xa x.kids.length xc] (0, 0) _ rfl ?_ Tryd.underlying29 rfl (by kernel_rfl)) rfl ?_
        · exact HF.out.put
        have hdone := HF.out.done (nn := 4) (nc := 4) H0.out.1 H0.out.2 (by omega) (by omega)
        rw [setCells4] at hdone
        exact hdone
  · go_upto_region 3 with fail
    have HD := Lib.hid (show DSt W1 br a1 len1 cap1 bs1 nb 1 (some ⟨w3.heap.size, 0, none⟩) 0 0 [] (w3.alloc (.cells #[] 3)) from
      ⟨HRD3.out.alloc _, HN3.out.1, (heap_alloc_old _ _ HN3.out.2.2).trans HN3.out.2.1, own_empty w3 (nb + 1) 3 1 HN3.out.2.2⟩)
    go_upto_region 4 with fail
    generalize w3.alloc (.cells #[] 3) = W4 at HD ⊢
    obtain ⟨ia0, hia⟩ : ∃ x, x = some (⟨w3.heap.size, 0, none⟩ : Addr) := ⟨_, rfl⟩
    rw [← hia] at HD ⊢
    clear hia
    go_wp2_with fail
    go_loopg [7, 19] 0 (fun G s i wr => ∃ (ia : Option Addr) (k ic : Nat) (is : List Int) (q : Nat), k + G = 0 ∧ s = .slice ia k ic ∧ i = .int .i64 k ∧ Hid (DSt W1 br a1 len1 cap1 bs1 nb q ia k ic is wr ∧ q ≤ 1 + 2 * k))
    case atStart => exact ⟨ia0, 0, 0, [], 1, by omega, rfl, rfl, Lib.hid ⟨HD.out, by omega⟩⟩
    case round =>
      obtain ⟨ia, k, ic, is, q, hk, rfl, rfl, HB2⟩ := hrel
      clear HD
      by_cases hlt : 0 < gk
      · omega
      · obtain rfl : gk = 0 := by omega
        obtain rfl : k = 0 := by omega
        have HQ := Lib.hid (show q ≤ 20 by have := HB2.out.2; omega)
        have HN := Lib.hid (And.intro HB2.out.1.lt HB2.out.1.nsize)
        have HCALL := Lib.hid (l2Expr_any W1 br a1 len1 cap1 bs1 hlen1 (some ⟨wr.heap.size, 0, none⟩) 0 3 ([(⟨#[97]⟩ : ByteArray), ⟨#[98]⟩, ⟨#[120]⟩].take 0) (by decide) (by omega) 4 _ q (by omega) (HB2.out.1.alloc (.cells ([(⟨#[97]⟩ : ByteArray), ⟨#[98]⟩, ⟨#[120]⟩].map Value.string).toArray 9)).rd (by have := HQ.out; show q + 124 ≤ _; omega) ((StrsA.lit wr [(⟨#[97]⟩ : ByteArray), ⟨#[98]⟩, ⟨#[120]⟩] (by have := HN.out; omega)).pre (by decide)))
        go_wp2_with fail
        refine HCALL.out.mono ?_
        rintro e w5 ⟨ecs, x, q5, rfl, hrd5, hq5, ht5, hx5, hl5, -⟩
        obtain ⟨xa, xc, rfl⟩ := exprP_form hx5
        have hD5 := (HB2.out.1.alloc (.cells ([(⟨#[97]⟩ : ByteArray), ⟨#[98]⟩, ⟨#[120]⟩].map Value.string).toArray 9)).step ht5 hrd5
        have HD5 := Lib.hid (hD5.alloc (.cells #[.int .i64 x.op, .int .i64 x.n, .string x.name, .slice xa x.kids.length xc] 29))
        have HE := Lib.hid (show ExprP 12 (fun b => wr.heap.size ≤ b ∧ b < w5.heap.size) (w5.alloc (.cells #[.int .i64 x.op, .int .i64 x.n, .string x.name, .slice xa x.kids.length xc] 29)) [.int .i64 x.op, .int .i64 x.n, .string x.name, .slice xa x.kids.length xc] x ∧ anyE longP 12 x = false ∧ (w5.alloc (.cells #[.int .i64 x.op, .int .i64 x.n, .string x.name, .slice xa x.kids.length xc] 29)).heap[w5.heap.size]? = some (.cells #[.int .i64 x.op, .int .i64 x.n, .string x.name, .slice xa x.kids.length xc] 29 (0, 0)) ∧ wr.heap.size ≤ w5.heap.size from
          ⟨exprP_below ((Below.refl _ _).alloc (Nat.le_refl _) _) (exprP_le (by omega) (exprP_mono (fun k h1 h => ⟨by rw [World.size_alloc] at h; omega, h1⟩) hx5)), by rw [anyE_deep hx5 (by omega)]; exact hl5, heap_alloc_new w5 _, by have := Turned.size (S := fun k => k = br ∨ (wr.alloc (.cells ([(⟨#[97]⟩ : ByteArray), ⟨#[98]⟩, ⟨#[120]⟩].map Value.string).toArray 9)).heap.size ≤ k) ht5; rw [World.size_alloc] at this; omega⟩)
        have HIA := Lib.hid (show ∀ i, (Value.slice ia 0 ic).ownBlock = some i → nb < i ∧ i < wr.heap.size from fun i hi => by have := HB2.out.1.own.lt i hi; omega)
        have HQ5 := Lib.hid (show q5 ≤ 144 by have := HQ.out; have h9 : costE 4 = 124 := rfl; omega)
        clear hrd5 hq5 ht5 hx5 hl5 hD5 HCALL
        go_upto_region 9 with fail
        obtain ⟨eb, heb⟩ : ∃ b, b = w5.heap.size := ⟨_, rfl⟩
        rw [← heb] at HE ⊢
        generalize w5.alloc (.cells #[.int .i64 x.op, .int .i64 x.n, .string x.name, .slice xa x.kids.length xc] 29) = W6 at HE HD5 ⊢
        clear heb
        go_wp2_with fail
        refine (pick_any W1 _ br a1 len1 cap1 bs1 q5 16 HD5.out.rd (by omega) hlen1 (by have := HQ5.out; omega)).mono ?_
        rintro e w7 ⟨v, _, _, rfl, hrd7, hg7⟩
        have HD7 := Lib.hid (HD5.out.step (TurnR.grown hg7) hrd7)
        have HE7 := Lib.hid (show ExprP 12 (fun b => wr.heap.size ≤ b ∧ b < eb) w7 [.int .i64 x.op, .int .i64 x.n, .string x.name, .slice xa x.kids.length xc] x ∧ w7.heap[eb]? = some (.cells #[.int .i64 x.op, .int .i64 x.n, .string x.name, .slice xa x.kids.length xc] 29 (0, 0)) ∧ eb < w7.heap.size by
          have hlt := HN.out
          have hes := (Array.getElem?_eq_some_iff.1 HE.out.2.2.1).1
          have hsz := hg7.size
          exact ⟨exprP_turned (T := fun k => k = br ∨ W6.heap.size ≤ k) (TurnR.grown hg7) (fun k h1 h2 h3 => by rcases h3 with h3 | h3 <;> omega) HE.out.1, ((TurnR.grown hg7).block hes (by have := HE.out.2.2.2; omega)).trans HE.out.2.2.1, by omega⟩)
        clear hrd7 hg7
        by_cases h0 : v = 0
        · subst h0
          have HCALL := Lib.hid (l2Bent_any W1 w7 br a1 len1 cap1 bs1 hlen1 (q5 + 1) HD7.out.rd (by have := HQ5.out; omega))
          go_wp2_with fail
          refine HCALL.out.mono ?_
          rintro e w8 ⟨ycs, y, q8, rfl, hrd8, hq8, ht8, hy8, hl8, -⟩
          obtain ⟨ya, yc, rfl⟩ := exprP_form hy8
          have HD8 := Lib.hid (HD7.out.step ht8 hrd8)
          have HER := Lib.hid (show w8.heap[eb]? = some (.cells #[.int .i64 x.op, .int .i64 x.n, .string x.name, .slice xa x.kids.length xc] 29 (0, 0)) from (ht8.block HE7.out.2.2 (by have := HE.out.2.2.2; have := HN.out; omega)).trans HE7.out.2.1)
          have HF := Lib.hid (show DFin W1 rb nb eb [.int .i64 y.op, .int .i64 y.n, .string y.name, .slice ya y.kids.length yc] y ia 0 ic is (w8.setCells eb 0 [.int .i64 y.op, .int .i64 y.n, .string y.name, .slice ya y.kids.length yc]) by
            have ht := turned_setCells (g := eb) [.int .i64 y.op, .int .i64 y.n, .string y.name, .slice ya y.kids.length yc] w8 0
            have hes := HE7.out.2.2
            have hlt := HN.out
            have hge := HE.out.2.2.2
            have hbase := HD8.out.rd.base
            have hb8 := HD8.out.rd.below.size
            refine ⟨HD8.out.rd.below.trans (ht.below (B := W1.heap.size) hb8 (fun k hk => by omega)), by omega, (heap_setCells_other (by omega) _ _ _).trans HD8.out.nrow, own_turned HD8.out.own ht (fun k hk h3 => by have := HIA.out k hk; omega), ?_, ?_, hl8, HB.out.2.1⟩
            · have := heap_setCells_mid (A := []) (B := [.int .i64 x.op, .int .i64 x.n, .string x.name, .slice xa x.kids.length xc]) (C := []) (vs := [.int .i64 y.op, .int .i64 y.n, .string y.name, .slice ya y.kids.length yc]) (o := 0) rfl rfl (by simpa using HER.out)
              simpa using this
            · exact exprP_mono (fun k _ h1 => by omega) (exprP_turned ht (fun k _ h1 h2 => by omega) hy8))
          clear hrd8 hq8 ht8 hy8 hl8 HCALL
          have k0 := cell_of_row _ _ 0 _ _ _ HER.out
          have k1 := cell_of_row _ _ 1 _ _ _ HER.out
          have k2 := cell_of_row _ _ 2 _ _ _ HER.out
          have k3 := cell_of_row _ _ 3 _ _ _ HER.out
          simp only [List.getElem?_toArray, List.getElem?_cons_zero, List.getElem?_cons_succ] at k0 k1 k2 k3
          have g0 := frozen_of_row _ _ 0 _ _ HER.out
          have g1 := frozen_of_row _ _ 1 _ _ HER.out
          have g2 := frozen_of_row _ _ 2 _ _ HER.out
          have g3 := frozen_of_row _ _ 3 _ _ HER.out
          rw [setCells4] at HF
          go_upto_region 17 with fail
          clear k0 k1 k2 k3 g0 g1 g2 g3
          generalize (((w8.setCell ⟨eb, 0, none⟩ (.int .i64 y.op)).setCell ⟨eb, 1, none⟩ (.int .i64 y.n)).setCell ⟨eb, 2, none⟩ (.string y.name)).setCell ⟨eb, 3, none⟩ (.slice ya y.kids.length yc) = W9 at HF ⊢
          have e0 := cell_of_row _ _ 0 _ _ _ HF.out.erow
          have e1 := cell_of_row _ _ 1 _ _ _ HF.out.erow
          have e2 := cell_of_row _ _ 2 _ _ _ HF.out.erow
          have e3 := cell_of_row _ _ 3 _ _ _ HF.out.erow
          simp only [List.getElem?_toArray, List.getElem?_cons_zero, List.getElem?_cons_succ] at e0 e1 e2 e3
          have c0 := cell_of_row _ _ 0 _ _ _ HF.out.row
          have c1 := cell_of_row _ _ 1 _ _ _ HF.out.row
          have c2 := cell_of_row _ _ 2 _ _ _ HF.out.row
          have c3 := cell_of_row _ _ 3 _ _ _ HF.out.row
          simp only [List.getElem?_toArray, List.getElem?_cons_zero, List.getElem?_cons_succ] at c0 c1 c2 c3
          have f0 := frozen_of_row _ _ 0 _ _ HF.out.row
          have f1 := frozen_of_row _ _ 1 _ _ HF.out.row
          have f2 := frozen_of_row _ _ 2 _ _ HF.out.row
          have f3 := frozen_of_row _ _ 3 _ _ HF.out.row
          go_wp2
          refine bodyPost_ret (results_cell3 rfl _ _ rb 29 #[.int .i64 y.op, .int .i64 y.n, .string y.name, .slice ya y.kids.length yc] (0, 0) _ rfl ?_ Tryd.underlying29 rfl (by kernel_rfl)) rfl ?_
          · exact HF.out.put
          have hdone := HF.out.done (nn := 0) (nc := 4) H0.out.1 H0.out.2 (by omega) (by omega)
          rw [setCells4] at hdone
          exact hdone
        have e00 : (v == 0) = false := by simpa using h0
        have HDF := Lib.hid (show ∀ (W : World) (ja : Option Addr) (jk jc : Nat) (js : List Int), (∃ T : Nat → Prop, Turned T w7 W ∧ ∀ k, T k → (nb < k ∧ k < wr.heap.size) ∨ w7.heap.size ≤ k) → W.ownsRow (nb + 1) 3 1 (.slice ja jk jc) jk (js.map (Value.int .i64)) → DFin W1 rb nb eb [.int .i64 x.op, .int .i64 x.n, .string x.name, .slice xa x.kids.length xc] x ja jk jc js W from fun W ja jk jc js hT hown => by
          obtain ⟨T, ht, hT⟩ := hT
          have hes := HE7.out.2.2
          have hlt := HN.out
          have hge := HE.out.2.2.2
          have hbase := HD7.out.rd.base
          have hb8 := HD7.out.rd.below.size
          refine ⟨HD7.out.rd.below.trans (ht.below (B := W1.heap.size) hb8 (fun k hk => by have := hT k hk; omega)), by omega, (ht.block nb HD7.out.nsize (fun h => by have := hT nb h; have := HD7.out.nsize; omega)).trans HD7.out.nrow, hown, (ht.block eb hes (fun h => by have := hT eb h; omega)).trans HE7.out.2.1, ?_, HE.out.2.1, HB.out.2.1⟩
          exact exprP_mono (fun k _ h1 => by have := h1.1; omega) (exprP_turned ht (fun k h1 h2 h3 => by have := hT k h3; have := h2.1; omega) HE7.out.1))
        by_cases h1 : v = 1
        · subst h1
          clear h0
          have HDA := Lib.hid (HD7.out.alloc (.cells #[.int .i64 1] 3))
          go_wp2_with (at_builtin; refine app_ints rfl (.tmp 45) (.tmp 46) rfl (nb + 1) _ 0 _ rfl HDA.out.own _ 1 1 [1] rfl rfl (rowAt_laidE' w7 [.int .i64 1] 3) (by simp) (by omega) HDA.out.nsize ?_; intro a9 c9 w9 hown9 hg9 hlies9; (have HF := Lib.hid (HDF.out w9 a9 (0 + 1) c9 (is ++ [1]) ⟨fun k => (Value.slice ia 0 ic).ownBlock = some k ∨ w7.heap.size ≤ k, Turned.trans (b := w7.alloc (.cells #[.int .i64 1] 3)) (turned_of_below ((Below.refl w7.heap.size _).alloc (Nat.le_refl _) _) (fun k h1 h2 => .inr h1)) (turned_of_grown hg9 (fun k hk => .inl hk)), fun k hk => by rcases hk with hk | hk; exact .inl (HIA.out k hk); exact .inr hk⟩ (by rw [List.map_append]; exact hown9))); (have e0 := cell_of_row _ _ 0 _ _ _ HF.out.erow); (have e1 := cell_of_row _ _ 1 _ _ _ HF.out.erow); (have e2 := cell_of_row _ _ 2 _ _ _ HF.out.erow); (have e3 := cell_of_row _ _ 3 _ _ _ HF.out.erow); (simp only [List.getElem?_toArray, List.getElem?_cons_zero, List.getElem?_cons_succ] at e0 e1 e2 e3); (have c0 := cell_of_row _ _ 0 _ _ _ HF.out.row); (have c1 := cell_of_row _ _ 1 _ _ _ HF.out.row); (have c2 := cell_of_row _ _ 2 _ _ _ HF.out.row); (have c3 := cell_of_row _ _ 3 _ _ _ HF.out.row); (simp only [List.getElem?_toArray, List.getElem?_cons_zero, List.getElem?_cons_succ] at c0 c1 c2 c3); (have f0 := frozen_of_row _ _ 0 _ _ HF.out.row); (have f1 := frozen_of_row _ _ 1 _ _ HF.out.row); (have f2 := frozen_of_row _ _ 2 _ _ HF.out.row); (have f3 := frozen_of_row _ _ 3 _ _ HF.out.row); clear hown9 hg9 hlies9)
          refine bodyPost_ret (results_cell3 rfl _ _ rb 29 #[.int .i64 x.op, .int .i64 x.n, .string x.name, .slice xa x.kids.length xc] (0, 0) _ rfl ?_ Tryd.underlying29 rfl (by kernel_rfl)) rfl ?_
          · exact HF.out.put
          have hdone := HF.out.done (nn := 0) (nc := 4) H0.out.1 H0.out.2 (by omega) (by omega)
          rw [setCells4] at hdone
          exact hdone
        have e01 : (v == 1) = false := by simpa using h1
        by_cases h2 : v = 2
        · subst h2
          clear h0 h1
          have HF := Lib.hid (HDF.out w7 ia 0 ic is ⟨fun _ => False, Turned.refl _ _, fun _ h => h.elim⟩ HD7.out.own)
          go_upto_region 17 with fail
          have e0 := cell_of_row _ _ 0 _ _ _ HF.out.erow
          have e1 := cell_of_row _ _ 1 _ _ _ HF.out.erow
          have e2 := cell_of_row _ _ 2 _ _ _ HF.out.erow
          have e3 := cell_of_row _ _ 3 _ _ _ HF.out.erow
          simp only [List.getElem?_toArray, List.getElem?_cons_zero, List.getElem?_cons_succ] at e0 e1 e2 e3
          have c0 := cell_of_row _ _ 0 _ _ _ HF.out.row
          have c1 := cell_of_row _ _ 1 _ _ _ HF.out.row
          have c2 := cell_of_row _ _ 2 _ _ _ HF.out.row
          have c3 := cell_of_row _ _ 3 _ _ _ HF.out.row
          simp only [List.getElem?_toArray, List.getElem?_cons_zero, List.getElem?_cons_succ] at c0 c1 c2 c3
          have f0 := frozen_of_row _ _ 0 _ _ HF.out.row
          have f1 := frozen_of_row _ _ 1 _ _ HF.out.row
          have f2 := frozen_of_row _ _ 2 _ _ HF.out.row
          have f3 := frozen_of_row _ _ 3 _ _ HF.out.row
          go_wp2
          refine bodyPost_ret (results_cell3 rfl _ _ rb 29 #[.int .i64 x.op, .int .i64 x.n, .string x.name, .slice xa x.kids.length xc] (0, 0) _ rfl ?_ Tryd.underlying29 rfl (by kernel_rfl)) rfl ?_
          · exact HF.out.put
          have hdone := HF.out.done (nn := 0) (nc := 4) H0.out.1 H0.out.2 (by omega) (by omega)
          rw [setCells4] at hdone
          exact hdone
        have e02 : (v == 2) = false := by simpa using h2
        clear h0 h1 h2
        have HF := Lib.hid (HDF.out w7 ia 0 ic is ⟨fun _ => False, Turned.refl _ _, fun _ h => h.elim⟩ HD7.out.own)
        go_upto_region 17 with fail
        have e0 := cell_of_row _ _ 0 _ _ _ HF.out.erow
        have e1 := cell_of_row _ _ 1 _ _ _ HF.out.erow
        have e2 := cell_of_row _ _ 2 _ _ _ HF.out.erow
        have e3 := cell_of_row _ _ 3 _ _ _ HF.out.erow
        simp only [List.getElem?_toArray, List.getElem?_cons_zero, List.getElem?_cons_succ] at e0 e1 e2 e3
        have c0 := cell_of_row _ _ 0 _ _ _ HF.out.row
        have c1 := cell_of_row _ _ 1 _ _ _ HF.out.row
        have c2 := cell_of_row _ _ 2 _ _ _ HF.out.row
        have c3 := cell_of_row _ _ 3 _ _ _ HF.out.row
        simp only [List.getElem?_toArray, List.getElem?_cons_zero, List.getElem?_cons_succ] at c0 c1 c2 c3
        have f0 := frozen_of_row _ _ 0 _ _ HF.out.row
        have f1 := frozen_of_row _ _ 1 _ _ HF.out.row
        have f2 := frozen_of_row _ _ 2 _ _ HF.out.row
        have f3 := frozen_of_row _ _ 3 _ _ HF.out.row
        go_wp2
        refine bodyPost_ret (results_cell3 rfl _ _ rb 29 #[.int .i64 x.op, .int .i64 x.n, .string x.name, .slice xa x.kids.length xc] (0, 0) _ rfl ?_ Tryd.underlying29 rfl (by kernel_rfl)) rfl ?_
        · exact HF.out.put
        have hdone := HF.out.done (nn := 0) (nc := 4) H0.out.1 H0.out.2 (by omega) (by omega)
        rw [setCells4] at hdone
        exact hdone

end Go.Proofs.YtccfbnhlhjlmgaaDoor
