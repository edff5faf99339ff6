/-
  The reference copies a block (l7CopyBlock).
-/
import Derived.Test.YtajnldkempeheaaClone
import Derived.Test.YtajnldkempeheaaHl
import Derived.Test.YtajnldkempeheaaUvSpecUnit
import Derived.StillTailTactics
import Derived.Test.YtajnldkempeheaaCore
import Derived.Test.YtajnldkempeheaaBase
import Derived.Lib.SlicesCompact
import Derived.Deep.DeepCutAuto
import Derived.Maps.OwnOps
import Derived.Maps.Views
import Derived.Shelf.Sort.Plain
import Derived.Shelf.Slices.CompactI
import Derived.Test.YtajnldkempeheaaRu6
import Derived.Sort.OwnSortedInts
import Derived.Lib.OwnBridge
import Derived.Shelf.Slices.In.SortNone
import Derived.Maps.RangeWalk
import Derived.Sort.OwnSorted
import Derived.Test.YtajnldkempeheaaUvUnit

namespace Go.Proofs.Ytajnldkempeheaa
open Go.RowKit
set_option linter.unusedVariables false
set_option linter.unusedSimpArgs false

theorem two_rowsS (w : World) (P Z : Obj) : ((w.alloc P).alloc Z).heap[w.heap.size]? = some P ∧ ((w.alloc P).alloc Z).heap[w.heap.size + 1]? = some Z ∧ ((w.alloc P).alloc Z).heap.size = w.heap.size + 2 ∧ Below w.heap.size w ((w.alloc P).alloc Z) := by
  have h2 := heap_alloc_new (w.alloc P) Z
  rw [World.size_alloc] at h2
  exact ⟨heap_alloc2_old w P Z, h2, by rw [World.size_alloc, World.size_alloc], ((Below.refl _ _).alloc (Nat.le_refl _) _).alloc (by simp) _⟩
theorem own_typeC {w : World} {base s n k : Nat} {e : TypeId} {v : Value} {xs : List Value} (h : w.ownsRow base e s v n xs) (hk : v.ownBlock = some k) : ∃ cur, w.heap[k]? = some (.cells cur e (0, 0)) := by
  rcases h.2 with ⟨rfl, _⟩ | ⟨g, cap, cur, rfl, _, hg, _⟩
  · simp [Value.ownBlock] at hk
  · simp only [Value.ownBlock, Option.some.injEq] at hk
    subst hk
    exact ⟨cur, hg⟩
/-- What the first literals of a block's copy have made. -/
structure CbSt (W1 : World) (A B : Option Nat) (Lst : Option (Value × Nat × List Value)) (D : Option Nat) (W : World) : Prop where
  below : Below W1.heap.size W1 W
  a : ∀ b, A = some b → W.heap[b]? = some (.cells #[] 78 (0, 0)) ∧ W1.heap.size ≤ b
  b : ∀ b, B = some b → W.heap[b]? = some (.cells #[] 83 (0, 0)) ∧ W1.heap.size ≤ b
  l : ∀ v n vs, Lst = some (v, n, vs) → W.ownsRow W1.heap.size 3 1 v n vs
  d : ∀ b, D = some b → W.heap[b]? = some (.cells #[.slice none 0 0, .slice none 0 0, .int .i64 0, .int .i64 0, .slice none 0 0] 41 (0, 0)) ∧ W1.heap.size ≤ b
section
variable {W1 W w9 : World} {A B D : Option Nat} {Lst : Option (Value × Nat × List Value)}
theorem CbSt.start (W1 : World) : CbSt W1 none none none none W1.drew := ⟨(Below.refl _ _).drew, by rintro b ⟨⟩, by rintro b ⟨⟩, by rintro v n vs ⟨⟩, by rintro b ⟨⟩⟩
theorem heap_lt {W : World} {b : Nat} {o : Obj} (h : W.heap[b]? = some o) : b < W.heap.size := (Array.getElem?_eq_some_iff.1 h).1
theorem CbSt.later (h : CbSt W1 A B Lst D W) (hb : Below W.heap.size W w9) : CbSt W1 A B Lst D w9 :=
  ⟨h.below.trans (hb.mono h.below.size), fun b e => ⟨(hb.block b (heap_lt (h.a b e).1)).trans (h.a b e).1, (h.a b e).2⟩, fun b e => ⟨(hb.block b (heap_lt (h.b b e).1)).trans (h.b b e).1, (h.b b e).2⟩, fun v n vs e => ownsRow_below (h.l v n vs e) hb, fun b e => ⟨(hb.block b (heap_lt (h.d b e).1)).trans (h.d b e).1, (h.d b e).2⟩⟩
theorem CbSt.allocA (h : CbSt W1 none B Lst D W) : CbSt W1 (some W.heap.size) B Lst D (W.alloc (.cells #[] 78)) := by
  have h2 := h.later ((Below.refl _ _).alloc (Nat.le_refl _) (.cells #[] 78))
  exact ⟨h2.below, by rintro b ⟨⟩; exact ⟨heap_alloc_new W _, h.below.size⟩, h2.b, h2.l, h2.d⟩
theorem CbSt.allocB (h : CbSt W1 A none Lst D W) : CbSt W1 A (some W.heap.size) Lst D (W.alloc (.cells #[] 83)) := by
  have h2 := h.later ((Below.refl _ _).alloc (Nat.le_refl _) (.cells #[] 83))
  exact ⟨h2.below, h2.a, by rintro b ⟨⟩; exact ⟨heap_alloc_new W _, h.below.size⟩, h2.l, h2.d⟩
theorem CbSt.allocL (h : CbSt W1 A B none D W) : CbSt W1 A B (some (.slice (some ⟨W.heap.size, 0, none⟩) 0 0, 0, [])) D (W.alloc (.cells #[] 3)) := by
  have h2 := h.later ((Below.refl _ _).alloc (Nat.le_refl _) (.cells #[] 3))
  exact ⟨h2.below, h2.a, h2.b, by rintro v n vs ⟨⟩; exact own_empty W _ _ _ h.below.size, h2.d⟩
theorem CbSt.allocD (h : CbSt W1 A B Lst none W) : CbSt W1 A B Lst (some W.heap.size) (W.alloc (.cells #[.slice none 0 0, .slice none 0 0, .int .i64 0, .int .i64 0, .slice none 0 0] 41)) := by
  have h2 := h.later ((Below.refl _ _).alloc (Nat.le_refl _) (.cells #[.slice none 0 0, .slice none 0 0, .int .i64 0, .int .i64 0, .slice none 0 0] 41))
  exact ⟨h2.below, h2.a, h2.b, h2.l, by rintro b ⟨⟩; exact ⟨heap_alloc_new W _, h.below.size⟩⟩
theorem CbSt.app {v v' : Value} {n n' : Nat} {vs vs' : List Value} (h : CbSt W1 A B (some (v, n, vs)) D W) (hown : w9.ownsRow W1.heap.size 3 1 v' n' vs') (hg : W.grownBy w9 v.ownBlock) : CbSt W1 A B (some (v', n', vs')) D w9 := by
  have h1 := h.l v n vs rfl
  have hne : ∀ {b : Nat} {cs : Array Value} {t : TypeId}, W.heap[b]? = some (.cells cs t (0, 0)) → t ≠ 3 → w9.heap[b]? = some (.cells cs t (0, 0)) := fun {b cs t} hb ht =>
    (hg.block b (heap_lt hb) (fun e => by
      obtain ⟨cur, hc⟩ := own_typeC h1 e.symm
      rw [hb] at hc
      simp only [Option.some.injEq, Obj.cells.injEq] at hc
      exact ht hc.2.1)).trans hb
  exact ⟨h.below.grown hg h.below.size (fun i hi => (h1.lt i hi).1), fun b e => ⟨hne (h.a b e).1 (by decide), (h.a b e).2⟩, fun b e => ⟨hne (h.b b e).1 (by decide), (h.b b e).2⟩, by rintro v n vs ⟨⟩; exact hown, fun b e => ⟨hne (h.d b e).1 (by decide), (h.d b e).2⟩⟩
/-- The block's copy, so far: its row, its lists. -/
structure CbFin (W1 : World) (pa : Option Addr) (pn pc : Nat) (ia : Option Addr) (im ic : Nat) (jump jon : Int) (na : Option Addr) (nn nc : Nat) (db : Nat) (W : World) : Prop where
  below : Below W1.heap.size W1 W
  row : W.heap[db]? = some (.cells #[.slice pa pn pc, .slice ia im ic, .int .i64 jump, .int .i64 jon, .slice na nn nc] 41 (0, 0))
  le : W1.heap.size ≤ db
theorem CbSt.store {ab bb db n : Nat} {na : Option Addr} {nc : Nat} {xs : List Int} {jump jon : Int} (hn : xs.length = n) (h : CbSt W1 (some ab) (some bb) (some (.slice na n nc, n, xs.map (Value.int .i64))) (some db) W) :
    CbFin W1 (some ⟨ab, 0, none⟩) 0 0 (some ⟨bb, 0, none⟩) 0 0 jump jon na n nc db (W.setCells db 0 [.slice (some ⟨ab, 0, none⟩) 0 0, .slice (some ⟨bb, 0, none⟩) 0 0, .int .i64 jump, .int .i64 jon, .slice na n nc]) ∧
    SepK 2 78 PhiK (fun k => k = ab) (W.setCells db 0 [.slice (some ⟨ab, 0, none⟩) 0 0, .slice (some ⟨bb, 0, none⟩) 0 0, .int .i64 jump, .int .i64 jon, .slice na n nc]) (some ⟨ab, 0, none⟩) 0 0 [] ∧
    SepK 4 83 InsK (fun k => k = bb) (W.setCells db 0 [.slice (some ⟨ab, 0, none⟩) 0 0, .slice (some ⟨bb, 0, none⟩) 0 0, .int .i64 jump, .int .i64 jon, .slice na n nc]) (some ⟨bb, 0, none⟩) 0 0 [] ∧
    IntsK (fun k => W1.heap.size ≤ k ∧ k < W.heap.size ∧ k ≠ ab ∧ k ≠ bb ∧ k ≠ db) (W.setCells db 0 [.slice (some ⟨ab, 0, none⟩) 0 0, .slice (some ⟨bb, 0, none⟩) 0 0, .int .i64 jump, .int .i64 jon, .slice na n nc]) na n nc xs ∧
    (W1.heap.size ≤ ab ∧ ab < W.heap.size ∧ W1.heap.size ≤ bb ∧ bb < W.heap.size ∧ ab ≠ bb ∧ ab ≠ db ∧ bb ≠ db ∧ db < W.heap.size) := by
  obtain ⟨a1, a2⟩ := h.a ab rfl
  obtain ⟨b1, b2⟩ := h.b bb rfl
  obtain ⟨d1, d2⟩ := h.d db rfl
  have hl := h.l _ _ _ rfl
  have hab : ab ≠ bb := fun e => by rw [e, b1] at a1; simp at a1
  have had : ab ≠ db := fun e => by rw [e, d1] at a1; simp at a1
  have hbd : bb ≠ db := fun e => by rw [e, d1] at b1; simp at b1
  have hno : ∀ k, (Value.slice na n nc).ownBlock = some k → k ≠ ab ∧ k ≠ bb ∧ k ≠ db := fun k hk => by
    obtain ⟨cur, hc⟩ := own_typeC hl hk
    refine ⟨fun e => ?_, fun e => ?_, fun e => ?_⟩
    · rw [e, a1] at hc; simp at hc
    · rw [e, b1] at hc; simp at hc
    · rw [e, d1] at hc; simp at hc
  have ht := turned_setCells (g := db) [.slice (some ⟨ab, 0, none⟩) 0 0, .slice (some ⟨bb, 0, none⟩) 0 0, .int .i64 jump, .int .i64 jon, .slice na n nc] W 0
  have hA : SepK 2 78 PhiK (fun k => k = ab) W (some ⟨ab, 0, none⟩) 0 0 [] := ⟨[], fun _ _ => False, ⟨rfl, .inr ⟨ab, 0, #[], rfl, Nat.zero_le _, a1, Nat.le_refl _, Nat.zero_le _, rfl, rfl⟩⟩, rfl, by simp, rfl, fun k hk => by simp only [Value.ownBlock, Option.some.injEq] at hk; exact hk.symm, fun _ _ h => h.elim, fun _ _ _ _ h => h.elim, by simp⟩
  have hB : SepK 4 83 InsK (fun k => k = bb) W (some ⟨bb, 0, none⟩) 0 0 [] := ⟨[], fun _ _ => False, ⟨rfl, .inr ⟨bb, 0, #[], rfl, Nat.zero_le _, b1, Nat.le_refl _, Nat.zero_le _, rfl, rfl⟩⟩, rfl, by simp, rfl, fun k hk => by simp only [Value.ownBlock, Option.some.injEq] at hk; exact hk.symm, fun _ _ h => h.elim, fun _ _ _ _ h => h.elim, by simp⟩
  have hN : IntsK (fun k => W1.heap.size ≤ k ∧ k < W.heap.size ∧ k ≠ ab ∧ k ≠ bb ∧ k ≠ db) W na n nc xs := ⟨own_lower hl (fun k _ => Nat.zero_le _), fun k hk => ⟨(hl.lt k hk).1, (hl.lt k hk).2, hno k hk⟩, hn⟩
  refine ⟨⟨h.below.trans (ht.below (B := W1.heap.size) h.below.size (fun k hk => by have hk : k = db := hk; omega)), ?_, d2⟩, hA.turned phiK_sets ht (fun k _ h1 h2 => had (h1 ▸ h2)), hB.turned insK_sets ht (fun k _ h1 h2 => hbd (h1 ▸ h2)), hN.turned ht (fun k _ h1 h2 => h1.2.2.2.2 h2), a2, heap_lt a1, b2, heap_lt b1, hab, had, hbd, heap_lt d1⟩
  have := heap_setCells_mid (w := W) (A := []) (B := [.slice none 0 0, .slice none 0 0, .int .i64 0, .int .i64 0, .slice none 0 0]) (C := []) (vs := [.slice (some ⟨ab, 0, none⟩) 0 0, .slice (some ⟨bb, 0, none⟩) 0 0, .int .i64 jump, .int .i64 jon, .slice na n nc]) (o := 0) rfl (by simp) (by simpa using d1)
  simpa using this
theorem CbFin.turn {T : Nat → Prop} {pa ia na : Option Addr} {pn pc im ic nn nc db : Nat} {jump jon : Int} (h : CbFin W1 pa pn pc ia im ic jump jon na nn nc db W) (ht : Turned T W w9) (hT : ∀ k, k < W.heap.size → T k → W1.heap.size ≤ k ∧ k ≠ db) : CbFin W1 pa pn pc ia im ic jump jon na nn nc db w9 := by
  refine ⟨h.below.trans (ht.below (B := W1.heap.size) h.below.size (fun k hk => ?_)), (ht.block db (heap_lt h.row) (fun e => (hT db (heap_lt h.row) e).2 rfl)).trans h.row, h.le⟩
  by_cases h2 : k < W.heap.size
  · exact (hT k h2 hk).1
  · have := h.below.size; omega
theorem CbFin.put0 {pa ia na pa' : Option Addr} {pn pc im ic nn nc db pn' pc' : Nat} {jump jon : Int} (h : CbFin W1 pa pn pc ia im ic jump jon na nn nc db W) : CbFin W1 pa' pn' pc' ia im ic jump jon na nn nc db (W.setCell ⟨db, 0, none⟩ (.slice pa' pn' pc')) :=
  ⟨h.below.setCell (show W1.heap.size ≤ db from h.le) _, (heap_setCell_same W db 0 _ _ _ h.row).trans rfl, h.le⟩
theorem CbFin.put1 {pa ia na pa' : Option Addr} {pn pc im ic nn nc db pn' pc' : Nat} {jump jon : Int} (h : CbFin W1 pa pn pc ia im ic jump jon na nn nc db W) : CbFin W1 pa pn pc pa' pn' pc' jump jon na nn nc db (W.setCell ⟨db, 1, none⟩ (.slice pa' pn' pc')) :=
  ⟨h.below.setCell (show W1.heap.size ≤ db from h.le) _, (heap_setCell_same W db 1 _ _ _ h.row).trans rfl, h.le⟩
end

theorem share1 {P : World → Nat → Prop} (H : World → Nat → Prop) {G : Prop} (use : (∀ (W : World) (n0 : Nat), H W n0 → P W n0) → G) (pf : ∀ (W : World) (n0 : Nat), H W n0 → P W n0) : G := use pf
theorem share2 {P : World → Nat → Nat → Prop} (H : World → Nat → Nat → Prop) {G : Prop} (use : (∀ (W : World) (n0 : Nat) (n1 : Nat), H W n0 n1 → P W n0 n1) → G) (pf : ∀ (W : World) (n0 : Nat) (n1 : Nat), H W n0 n1 → P W n0 n1) : G := use pf
theorem share3 {P : World → Nat → Nat → Nat → Prop} (H : World → Nat → Nat → Nat → Prop) {G : Prop} (use : (∀ (W : World) (n0 : Nat) (n1 : Nat) (n2 : Nat), H W n0 n1 n2 → P W n0 n1 n2) → G) (pf : ∀ (W : World) (n0 : Nat) (n1 : Nat) (n2 : Nat), H W n0 n1 n2 → P W n0 n1 n2) : G := use pf
theorem share4 {P : World → Nat → Nat → Nat → Nat → Prop} (H : World → Nat → Nat → Nat → Nat → Prop) {G : Prop} (use : (∀ (W : World) (n0 : Nat) (n1 : Nat) (n2 : Nat) (n3 : Nat), H W n0 n1 n2 n3 → P W n0 n1 n2 n3) → G) (pf : ∀ (W : World) (n0 : Nat) (n1 : Nat) (n2 : Nat) (n3 : Nat), H W n0 n1 n2 n3 → P W n0 n1 n2 n3) : G := use pf
theorem share1p {P : World → Nat → Option Addr → Nat → Prop} (H : World → Nat → Option Addr → Nat → Prop) {G : Prop} (use : (∀ (W : World) (n0 : Nat) (a5 : Option Addr) (c5 : Nat), H W n0 a5 c5 → P W n0 a5 c5) → G) (pf : ∀ (W : World) (n0 : Nat) (a5 : Option Addr) (c5 : Nat), H W n0 a5 c5 → P W n0 a5 c5) : G := use pf
theorem share2p {P : World → Nat → Nat → Option Addr → Nat → Prop} (H : World → Nat → Nat → Option Addr → Nat → Prop) {G : Prop} (use : (∀ (W : World) (n0 : Nat) (n1 : Nat) (a5 : Option Addr) (c5 : Nat), H W n0 n1 a5 c5 → P W n0 n1 a5 c5) → G) (pf : ∀ (W : World) (n0 : Nat) (n1 : Nat) (a5 : Option Addr) (c5 : Nat), H W n0 n1 a5 c5 → P W n0 n1 a5 c5) : G := use pf
theorem share3p {P : World → Nat → Nat → Nat → Option Addr → Nat → Prop} (H : World → Nat → Nat → Nat → Option Addr → Nat → Prop) {G : Prop} (use : (∀ (W : World) (n0 : Nat) (n1 : Nat) (n2 : Nat) (a5 : Option Addr) (c5 : Nat), H W n0 n1 n2 a5 c5 → P W n0 n1 n2 a5 c5) → G) (pf : ∀ (W : World) (n0 : Nat) (n1 : Nat) (n2 : Nat) (a5 : Option Addr) (c5 : Nat), H W n0 n1 n2 a5 c5 → P W n0 n1 n2 a5 c5) : G := use pf
theorem share4p {P : World → Nat → Nat → Nat → Nat → Option Addr → Nat → Prop} (H : World → Nat → Nat → Nat → Nat → Option Addr → Nat → Prop) {G : Prop} (use : (∀ (W : World) (n0 : Nat) (n1 : Nat) (n2 : Nat) (n3 : Nat) (a5 : Option Addr) (c5 : Nat), H W n0 n1 n2 n3 a5 c5 → P W n0 n1 n2 n3 a5 c5) → G) (pf : ∀ (W : World) (n0 : Nat) (n1 : Nat) (n2 : Nat) (n3 : Nat) (a5 : Option Addr) (c5 : Nat), H W n0 n1 n2 n3 a5 c5 → P W n0 n1 n2 n3 a5 c5) : G := use pf
theorem wpAnyL_norm {P : Program} {md : Region.Mode} {ops : Array Oper} {Q : Exit → Act → World → Prop} {S : World → Prop} {fuel : Nat} {l listed : Array Bool} {a : Act} {w : World} (h : listed = l) (hw : wpAnyL P md ops Q S fuel l a w) : wpAnyL P md ops Q S fuel listed a w := by rw [h]; exact hw
theorem setCells5c (w : World) (g : Nat) (v0 v1 v2 v3 v4 : Value) : w.setCells g 0 [v0, v1, v2, v3, v4] = ((((w.setCell ⟨g, 0, none⟩ v0).setCell ⟨g, 1, none⟩ v1).setCell ⟨g, 2, none⟩ v2).setCell ⟨g, 3, none⟩ v3).setCell ⟨g, 4, none⟩ v4 := rfl
set_option maxRecDepth 100000 in
set_option maxHeartbeats 8000000 in
theorem l7CopyBlock_any (cs : List Value) (x : BlockD) (w : World) (hR : BlockR w cs x) (hs : szBlockD x ≤ 1048576) :
    Calls Try.prog 80 #[.agg cs.toArray] w fun e w' => ∃ cs', e = .returned (.agg (List.toArray cs')) ∧ BlockK (fun k => w.heap.size ≤ k) w' cs' x ∧ Below w.heap.size w w' := by
  obtain ⟨phis_a, phis_c, ins_a, ins_c, nx_a, nx_c, rfl, ⟨phis_m, phis_r⟩, ⟨ins_m, ins_r⟩, ⟨nx_m, nx_r⟩⟩ := hR
  unfold szBlockD at hs
  have HPR := Lib.hid (And.intro phis_m phis_r)
  have HIR := Lib.hid (And.intro ins_m ins_r)
  have HNR := Lib.hid (And.intro nx_m nx_r)
  have HS := Lib.hid hs
  have H2 := Lib.hid (two_rowsS w (.cells #[.slice phis_a x.phis.length phis_c, .slice ins_a x.ins.length ins_c, .int .i64 x.jump, .int .i64 x.jon, .slice nx_a x.nx.length nx_c] 41) (.cells #[.slice none 0 0, .slice none 0 0, .int .i64 0, .int .i64 0, .slice none 0 0] 41))
  clear hs phis_m phis_r ins_m ins_r nx_m nx_r
  go_enter Try.func80, Try.ntmps80
  go_upto_region 1 with fail
  obtain ⟨pb, hpb⟩ : ∃ n, n = w.heap.size := ⟨_, rfl⟩
  obtain ⟨rb, hrb⟩ : ∃ n, n = w.heap.size + 1 := ⟨_, rfl⟩
  generalize (w.alloc (.cells #[.slice phis_a x.phis.length phis_c, .slice ins_a x.ins.length ins_c, .int .i64 x.jump, .int .i64 x.jon, .slice nx_a x.nx.length nx_c] 41)).alloc (.cells #[.slice none 0 0, .slice none 0 0, .int .i64 0, .int .i64 0, .slice none 0 0] 41) = W1 at H2 ⊢
  have HR1 := Lib.hid (show Below w.heap.size w W1 ∧ W1.heap[pb]? = some (.cells #[.slice phis_a x.phis.length phis_c, .slice ins_a x.ins.length ins_c, .int .i64 x.jump, .int .i64 x.jon, .slice nx_a x.nx.length nx_c] 41 (0, 0)) ∧ W1.heap[rb]? = some (.cells #[.slice none 0 0, .slice none 0 0, .int .i64 0, .int .i64 0, .slice none 0 0] 41 (0, 0)) ∧ (pb = w.heap.size ∧ rb = w.heap.size + 1 ∧ W1.heap.size = w.heap.size + 2) from by rw [hpb, hrb]; exact ⟨H2.out.2.2.2, H2.out.1, H2.out.2.1, rfl, rfl, H2.out.2.2.1⟩)
  rw [← hrb, ← hpb]
  clear hpb hrb H2
  have HKP := Lib.hid (show ∀ W, Below W1.heap.size W1 W → (W.cell? ⟨pb, 2, none⟩ = some (.int .i64 x.jump) ∧ W.cell? ⟨pb, 3, none⟩ = some (.int .i64 x.jon) ∧ W.cell? ⟨pb, 4, none⟩ = some (.slice nx_a x.nx.length nx_c)) from fun W hW => by
    have h := (hW.block pb (by have := HR1.out.2.2.2; omega)).trans HR1.out.2.1
    exact ⟨cell_of_row _ _ 2 _ _ _ h, cell_of_row _ _ 3 _ _ _ h, cell_of_row _ _ 4 _ _ _ h⟩)
  have HNX := Lib.hid (show (x.nx.length ≤ maxLen ∧ (nx_a = none → nx_c = 0)) ∧ IntsRd W1 nx_a x.nx.length x.nx ∧ 0 + x.nx.length ≤ 4398046511104 from ⟨HNR.out.1, HNR.out.2.later HR1.out.1, by have := HS.out; omega⟩)
  go_cut [3] (fun t3 wx => ∃ (ab bb db : Nat) (na : Option Addr) (nc : Nat), t3 = .pointer (some ⟨db, 0, none⟩) ∧ Hid (CbFin W1 (some ⟨ab, 0, none⟩) 0 0 (some ⟨bb, 0, none⟩) 0 0 x.jump x.jon na x.nx.length nc db wx ∧ SepK 2 78 PhiK (fun k => k = ab) wx (some ⟨ab, 0, none⟩) 0 0 [] ∧ SepK 4 83 InsK (fun k => k = bb) wx (some ⟨bb, 0, none⟩) 0 0 [] ∧ IntsK (fun k => W1.heap.size ≤ k ∧ k < wx.heap.size ∧ k ≠ ab ∧ k ≠ bb ∧ k ≠ db) wx na x.nx.length nc x.nx ∧ (W1.heap.size ≤ ab ∧ ab < wx.heap.size ∧ W1.heap.size ≤ bb ∧ bb < wx.heap.size ∧ ab ≠ bb ∧ ab ≠ db ∧ bb ≠ db ∧ db < wx.heap.size)))
  case first =>
    refine wp_region_L (S := (fun W => W.cell? ⟨pb, 2, none⟩ = some (.int .i64 x.jump) ∧ W.cell? ⟨pb, 3, none⟩ = some (.int .i64 x.jon) ∧ W.cell? ⟨pb, 4, none⟩ = some (.slice nx_a x.nx.length nx_c))) (by kernel_rfl) ?_
    have hHeld := HKP.out _ ((Below.refl W1.heap.size W1).drew)
    refine wpAnyL_take 3 (i := 2) (oi := ⟨some 9, _, _, _, _, _⟩) (v := ?_) rfl (by kernel_rfl) (by kernel_rfl) (by kernel_rfl) (by kernel_rfl) (fun _ _ _ h => h) (Or.inl ⟨by rfl, ?_⟩) hHeld ?_
    rotate_left
    · (intro w hSw; (try dsimp only at hSw); go_simp; all_goals (try with_reducible rfl))
    (try simp only [Act.put, List.setIfInBounds_toArray, List.set_cons_zero, List.set_cons_succ])
    refine wpAnyL_take 10 (i := 3) (oi := ⟨some 10, _, _, _, _, _⟩) (v := ?_) rfl (by kernel_rfl) (by kernel_rfl) (by kernel_rfl) (by kernel_rfl) (fun _ _ _ h => h) (Or.inl ⟨by rfl, ?_⟩) hHeld ?_
    rotate_left
    · (intro w hSw; (try dsimp only at hSw); go_simp; all_goals (try with_reducible rfl))
    (try simp only [Act.put, List.setIfInBounds_toArray, List.set_cons_zero, List.set_cons_succ])
    refine wpAnyL_take 5 (i := 4) (oi := ⟨some 11, _, _, _, _, _⟩) (v := ?_) rfl (by kernel_rfl) (by kernel_rfl) (by kernel_rfl) (by kernel_rfl) (fun _ _ _ h => h) (Or.inl ⟨by rfl, ?_⟩) hHeld ?_
    rotate_left
    · (intro w hSw; (try dsimp only at hSw); go_simp; all_goals (try with_reducible rfl))
    (try simp only [Act.put, List.setIfInBounds_toArray, List.set_cons_zero, List.set_cons_succ])
    refine wpAnyL_take 10 (i := 5) (oi := ⟨some 12, _, _, _, _, _⟩) (v := ?_) rfl (by kernel_rfl) (by kernel_rfl) (by kernel_rfl) (by kernel_rfl) (fun _ _ _ h => h) (Or.inl ⟨by rfl, ?_⟩) hHeld ?_
    rotate_left
    · (intro w hSw; (try dsimp only at hSw); go_simp; all_goals (try with_reducible rfl))
    (try simp only [Act.put, List.setIfInBounds_toArray, List.set_cons_zero, List.set_cons_succ])
    refine wpAnyL_take 8 (i := 7) (oi := ⟨some 14, _, _, _, _, _⟩) (v := ?_) rfl (by kernel_rfl) (by kernel_rfl) (by kernel_rfl) (by kernel_rfl) (fun _ _ _ h => h) (Or.inl ⟨by rfl, ?_⟩) hHeld ?_
    rotate_left
    · (intro w hSw; (try dsimp only at hSw); go_simp; all_goals (try with_reducible rfl))
    (try simp only [Act.put, List.setIfInBounds_toArray, List.set_cons_zero, List.set_cons_succ])
    refine wpAnyL_take 9 (i := 8) (oi := ⟨some 15, _, _, _, _, _⟩) (v := ?_) rfl (by kernel_rfl) (by kernel_rfl) (by kernel_rfl) (by kernel_rfl) (fun _ _ _ h => h) (Or.inl ⟨by rfl, ?_⟩) hHeld ?_
    rotate_left
    · (intro w hSw; (try dsimp only at hSw); go_simp; all_goals (try with_reducible rfl))
    (try simp only [Act.put, List.setIfInBounds_toArray, List.set_cons_zero, List.set_cons_succ])
    have HC0 := Lib.hid (CbSt.start W1)
    generalize W1.drew = w0y at HC0 hHeld ⊢
    clear hHeld
    apply share4p (fun W ab bb eb db a5 c5 => Hid (CbSt W1 (some ab) (some bb) (some (.slice a5 x.nx.length c5, x.nx.length, x.nx.map (Value.int .i64))) (some db) W))
    intro NABLPD
    apply share3p (fun W bb eb db a5 c5 => Hid (CbSt W1 none (some bb) (some (.slice a5 x.nx.length c5, x.nx.length, x.nx.map (Value.int .i64))) (some db) W))
    intro NBLPD
    apply share3p (fun W ab eb db a5 c5 => Hid (CbSt W1 (some ab) none (some (.slice a5 x.nx.length c5, x.nx.length, x.nx.map (Value.int .i64))) (some db) W))
    intro NALPD
    apply share4 (fun W ab bb eb db => Hid (CbSt W1 (some ab) (some bb) (some (.slice (some ⟨eb, 0, none⟩) 0 0, 0, [])) (some db) W))
    intro NABLD
    apply share3p (fun W ab bb eb a5 c5 => Hid (CbSt W1 (some ab) (some bb) (some (.slice a5 x.nx.length c5, x.nx.length, x.nx.map (Value.int .i64))) none W))
    intro NABLP
    apply share2p (fun W eb db a5 c5 => Hid (CbSt W1 none none (some (.slice a5 x.nx.length c5, x.nx.length, x.nx.map (Value.int .i64))) (some db) W))
    intro NLPD
    apply share3 (fun W bb eb db => Hid (CbSt W1 none (some bb) (some (.slice (some ⟨eb, 0, none⟩) 0 0, 0, [])) (some db) W))
    intro NBLD
    apply share2p (fun W bb eb a5 c5 => Hid (CbSt W1 none (some bb) (some (.slice a5 x.nx.length c5, x.nx.length, x.nx.map (Value.int .i64))) none W))
    intro NBLP
    apply share3 (fun W ab eb db => Hid (CbSt W1 (some ab) none (some (.slice (some ⟨eb, 0, none⟩) 0 0, 0, [])) (some db) W))
    intro NALD
    apply share2p (fun W ab eb a5 c5 => Hid (CbSt W1 (some ab) none (some (.slice a5 x.nx.length c5, x.nx.length, x.nx.map (Value.int .i64))) none W))
    intro NALP
    apply share3 (fun W ab bb db => Hid (CbSt W1 (some ab) (some bb) none (some db) W))
    intro NABD
    apply share3 (fun W ab bb eb => Hid (CbSt W1 (some ab) (some bb) (some (.slice (some ⟨eb, 0, none⟩) 0 0, 0, [])) none W))
    intro NABL
    apply share2 (fun W eb db => Hid (CbSt W1 none none (some (.slice (some ⟨eb, 0, none⟩) 0 0, 0, [])) (some db) W))
    intro NLD
    apply share1p (fun W eb a5 c5 => Hid (CbSt W1 none none (some (.slice a5 x.nx.length c5, x.nx.length, x.nx.map (Value.int .i64))) none W))
    intro NLP
    apply share2 (fun W bb db => Hid (CbSt W1 none (some bb) none (some db) W))
    intro NBD
    apply share2 (fun W bb eb => Hid (CbSt W1 none (some bb) (some (.slice (some ⟨eb, 0, none⟩) 0 0, 0, [])) none W))
    intro NBL
    apply share2 (fun W ab db => Hid (CbSt W1 (some ab) none none (some db) W))
    intro NAD
    apply share2 (fun W ab eb => Hid (CbSt W1 (some ab) none (some (.slice (some ⟨eb, 0, none⟩) 0 0, 0, [])) none W))
    intro NAL
    apply share2 (fun W ab bb => Hid (CbSt W1 (some ab) (some bb) none none W))
    intro NAB
    apply share1 (fun W db => Hid (CbSt W1 none none none (some db) W))
    intro ND
    apply share1 (fun W eb => Hid (CbSt W1 none none (some (.slice (some ⟨eb, 0, none⟩) 0 0, 0, [])) none W))
    intro NL
    apply share1 (fun W bb => Hid (CbSt W1 none (some bb) none none W))
    intro NB
    apply share1 (fun W ab => Hid (CbSt W1 (some ab) none none none W))
    intro NA
    have hHeld := HKP.out _ HC0.out.below
    · refine wpAnyL_ready (rs := [0, 1, 6, 11]) (by kernel_rfl) (by simp) ?_
      refine AllReadyL.cons (o := ⟨some 7, _, _, _, _, _⟩) rfl (fun K hK => ?_) ?_
      · go_simp
        have HC1 := Lib.hid (HC0.out.allocA)
        have hHeld2 := HKP.out _ HC1.out.below
        refine hK.out _ _ (fun _ => hHeld2) ?_
        clear hK K hHeld
        have hHeld := hHeld2
        clear hHeld2
        (try simp only [Act.put, List.setIfInBounds_toArray, List.set_cons_zero, List.set_cons_succ])
        generalize w0y.alloc (.cells #[] 78) = w1y at HC1 hHeld ⊢
        generalize w0y.heap.size = ab at HC1 ⊢
        refine wpAnyL_norm (l := #[true, false, true, true, true, true, false, true, true, false, false, false, false]) (by kernel_rfl) ?_
        exact NA w1y ab HC1
      refine AllReadyL.cons (o := ⟨some 8, _, _, _, _, _⟩) rfl (fun K hK => ?_) ?_
      · go_simp
        have HC1 := Lib.hid (HC0.out.allocB)
        have hHeld2 := HKP.out _ HC1.out.below
        refine hK.out _ _ (fun _ => hHeld2) ?_
        clear hK K hHeld
        have hHeld := hHeld2
        clear hHeld2
        (try simp only [Act.put, List.setIfInBounds_toArray, List.set_cons_zero, List.set_cons_succ])
        generalize w0y.alloc (.cells #[] 83) = w1y at HC1 hHeld ⊢
        generalize w0y.heap.size = bb at HC1 ⊢
        refine wpAnyL_norm (l := #[false, true, true, true, true, true, false, true, true, false, false, false, false]) (by kernel_rfl) ?_
        exact NB w1y bb HC1
      refine AllReadyL.cons (o := ⟨some 13, _, _, _, _, _⟩) rfl (fun K hK => ?_) ?_
      · go_simp
        have HC1 := Lib.hid (HC0.out.allocL)
        have hHeld2 := HKP.out _ HC1.out.below
        refine hK.out _ _ (fun _ => hHeld2) ?_
        clear hK K hHeld
        have hHeld := hHeld2
        clear hHeld2
        (try simp only [Act.put, List.setIfInBounds_toArray, List.set_cons_zero, List.set_cons_succ])
        generalize w0y.alloc (.cells #[] 3) = w1y at HC1 hHeld ⊢
        generalize w0y.heap.size = eb at HC1 ⊢
        refine wpAnyL_norm (l := #[false, false, true, true, true, true, true, true, true, false, false, false, false]) (by kernel_rfl) ?_
        exact NL w1y eb HC1
      refine AllReadyL.cons (o := ⟨some 3, _, _, _, _, _⟩) rfl (fun K hK => ?_) ?_
      · go_simp
        have HC1 := Lib.hid (HC0.out.allocD)
        have hHeld2 := HKP.out _ HC1.out.below
        refine hK.out _ _ (fun _ => hHeld2) ?_
        clear hK K hHeld
        have hHeld := hHeld2
        clear hHeld2
        (try simp only [Act.put, List.setIfInBounds_toArray, List.set_cons_zero, List.set_cons_succ])
        generalize w0y.alloc (.cells #[.slice none 0 0, .slice none 0 0, .int .i64 0, .int .i64 0, .slice none 0 0] 41) = w1y at HC1 hHeld ⊢
        generalize w0y.heap.size = db at HC1 ⊢
        refine wpAnyL_norm (l := #[false, false, true, true, true, true, false, true, true, false, false, true, false]) (by kernel_rfl) ?_
        exact ND w1y db HC1
      exact AllReadyL.nil
    · intro w0y ab HC0
      have hHeld := HKP.out _ HC0.out.below
      refine wpAnyL_ready (rs := [1, 6, 11]) (by kernel_rfl) (by simp) ?_
      refine AllReadyL.cons (o := ⟨some 8, _, _, _, _, _⟩) rfl (fun K hK => ?_) ?_
      · go_simp
        have HC1 := Lib.hid (HC0.out.allocB)
        have hHeld2 := HKP.out _ HC1.out.below
        refine hK.out _ _ (fun _ => hHeld2) ?_
        clear hK K hHeld
        have hHeld := hHeld2
        clear hHeld2
        (try simp only [Act.put, List.setIfInBounds_toArray, List.set_cons_zero, List.set_cons_succ])
        generalize w0y.alloc (.cells #[] 83) = w1y at HC1 hHeld ⊢
        generalize w0y.heap.size = bb at HC1 ⊢
        refine wpAnyL_norm (l := #[true, true, true, true, true, true, false, true, true, false, false, false, false]) (by kernel_rfl) ?_
        exact NAB w1y ab bb HC1
      refine AllReadyL.cons (o := ⟨some 13, _, _, _, _, _⟩) rfl (fun K hK => ?_) ?_
      · go_simp
        have HC1 := Lib.hid (HC0.out.allocL)
        have hHeld2 := HKP.out _ HC1.out.below
        refine hK.out _ _ (fun _ => hHeld2) ?_
        clear hK K hHeld
        have hHeld := hHeld2
        clear hHeld2
        (try simp only [Act.put, List.setIfInBounds_toArray, List.set_cons_zero, List.set_cons_succ])
        generalize w0y.alloc (.cells #[] 3) = w1y at HC1 hHeld ⊢
        generalize w0y.heap.size = eb at HC1 ⊢
        refine wpAnyL_norm (l := #[true, false, true, true, true, true, true, true, true, false, false, false, false]) (by kernel_rfl) ?_
        exact NAL w1y ab eb HC1
      refine AllReadyL.cons (o := ⟨some 3, _, _, _, _, _⟩) rfl (fun K hK => ?_) ?_
      · go_simp
        have HC1 := Lib.hid (HC0.out.allocD)
        have hHeld2 := HKP.out _ HC1.out.below
        refine hK.out _ _ (fun _ => hHeld2) ?_
        clear hK K hHeld
        have hHeld := hHeld2
        clear hHeld2
        (try simp only [Act.put, List.setIfInBounds_toArray, List.set_cons_zero, List.set_cons_succ])
        generalize w0y.alloc (.cells #[.slice none 0 0, .slice none 0 0, .int .i64 0, .int .i64 0, .slice none 0 0] 41) = w1y at HC1 hHeld ⊢
        generalize w0y.heap.size = db at HC1 ⊢
        refine wpAnyL_norm (l := #[true, false, true, true, true, true, false, true, true, false, false, true, false]) (by kernel_rfl) ?_
        exact NAD w1y ab db HC1
      exact AllReadyL.nil
    · intro w0y bb HC0
      have hHeld := HKP.out _ HC0.out.below
      refine wpAnyL_ready (rs := [0, 6, 11]) (by kernel_rfl) (by simp) ?_
      refine AllReadyL.cons (o := ⟨some 7, _, _, _, _, _⟩) rfl (fun K hK => ?_) ?_
      · go_simp
        have HC1 := Lib.hid (HC0.out.allocA)
        have hHeld2 := HKP.out _ HC1.out.below
        refine hK.out _ _ (fun _ => hHeld2) ?_
        clear hK K hHeld
        have hHeld := hHeld2
        clear hHeld2
        (try simp only [Act.put, List.setIfInBounds_toArray, List.set_cons_zero, List.set_cons_succ])
        generalize w0y.alloc (.cells #[] 78) = w1y at HC1 hHeld ⊢
        generalize w0y.heap.size = ab at HC1 ⊢
        refine wpAnyL_norm (l := #[true, true, true, true, true, true, false, true, true, false, false, false, false]) (by kernel_rfl) ?_
        exact NAB w1y ab bb HC1
      refine AllReadyL.cons (o := ⟨some 13, _, _, _, _, _⟩) rfl (fun K hK => ?_) ?_
      · go_simp
        have HC1 := Lib.hid (HC0.out.allocL)
        have hHeld2 := HKP.out _ HC1.out.below
        refine hK.out _ _ (fun _ => hHeld2) ?_
        clear hK K hHeld
        have hHeld := hHeld2
        clear hHeld2
        (try simp only [Act.put, List.setIfInBounds_toArray, List.set_cons_zero, List.set_cons_succ])
        generalize w0y.alloc (.cells #[] 3) = w1y at HC1 hHeld ⊢
        generalize w0y.heap.size = eb at HC1 ⊢
        refine wpAnyL_norm (l := #[false, true, true, true, true, true, true, true, true, false, false, false, false]) (by kernel_rfl) ?_
        exact NBL w1y bb eb HC1
      refine AllReadyL.cons (o := ⟨some 3, _, _, _, _, _⟩) rfl (fun K hK => ?_) ?_
      · go_simp
        have HC1 := Lib.hid (HC0.out.allocD)
        have hHeld2 := HKP.out _ HC1.out.below
        refine hK.out _ _ (fun _ => hHeld2) ?_
        clear hK K hHeld
        have hHeld := hHeld2
        clear hHeld2
        (try simp only [Act.put, List.setIfInBounds_toArray, List.set_cons_zero, List.set_cons_succ])
        generalize w0y.alloc (.cells #[.slice none 0 0, .slice none 0 0, .int .i64 0, .int .i64 0, .slice none 0 0] 41) = w1y at HC1 hHeld ⊢
        generalize w0y.heap.size = db at HC1 ⊢
        refine wpAnyL_norm (l := #[false, true, true, true, true, true, false, true, true, false, false, true, false]) (by kernel_rfl) ?_
        exact NBD w1y bb db HC1
      exact AllReadyL.nil
    · intro w0y eb HC0
      have hHeld := HKP.out _ HC0.out.below
      refine wpAnyL_ready (rs := [0, 1, 9, 11]) (by kernel_rfl) (by simp) ?_
      refine AllReadyL.cons (o := ⟨some 7, _, _, _, _, _⟩) rfl (fun K hK => ?_) ?_
      · go_simp
        have HC1 := Lib.hid (HC0.out.allocA)
        have hHeld2 := HKP.out _ HC1.out.below
        refine hK.out _ _ (fun _ => hHeld2) ?_
        clear hK K hHeld
        have hHeld := hHeld2
        clear hHeld2
        (try simp only [Act.put, List.setIfInBounds_toArray, List.set_cons_zero, List.set_cons_succ])
        generalize w0y.alloc (.cells #[] 78) = w1y at HC1 hHeld ⊢
        generalize w0y.heap.size = ab at HC1 ⊢
        refine wpAnyL_norm (l := #[true, false, true, true, true, true, true, true, true, false, false, false, false]) (by kernel_rfl) ?_
        exact NAL w1y ab eb HC1
      refine AllReadyL.cons (o := ⟨some 8, _, _, _, _, _⟩) rfl (fun K hK => ?_) ?_
      · go_simp
        have HC1 := Lib.hid (HC0.out.allocB)
        have hHeld2 := HKP.out _ HC1.out.below
        refine hK.out _ _ (fun _ => hHeld2) ?_
        clear hK K hHeld
        have hHeld := hHeld2
        clear hHeld2
        (try simp only [Act.put, List.setIfInBounds_toArray, List.set_cons_zero, List.set_cons_succ])
        generalize w0y.alloc (.cells #[] 83) = w1y at HC1 hHeld ⊢
        generalize w0y.heap.size = bb at HC1 ⊢
        refine wpAnyL_norm (l := #[false, true, true, true, true, true, true, true, true, false, false, false, false]) (by kernel_rfl) ?_
        exact NBL w1y bb eb HC1
      refine AllReadyL.cons (o := ⟨some 16, _, _, _, _, _⟩) rfl (fun K hK => ?_) ?_
      · refine step_app_ints rfl (.tmp 13) (.tmp 15) rfl W1.heap.size _ 0 [] rfl (HC0.out.l _ _ _ rfl) nx_a x.nx.length nx_c x.nx rfl rfl (HNX.out.2.1.row.later HC0.out.below) HNX.out.1.2 HNX.out.2.2 HC0.out.below.size ?_
        intro a5 c5 w1y hown5 hg5 hlies5
        simp only [Nat.zero_add, List.nil_append] at hown5 hlies5 ⊢
        have HC1 := Lib.hid (HC0.out.app hown5 hg5)
        clear hown5 hg5 hlies5
        have hHeld2 := HKP.out _ HC1.out.below
        refine hK.out _ _ (fun _ => hHeld2) ?_
        clear hK K hHeld
        have hHeld := hHeld2
        clear hHeld2
        (try simp only [Act.put, List.setIfInBounds_toArray, List.set_cons_zero, List.set_cons_succ])
        refine wpAnyL_norm (l := #[false, false, true, true, true, true, true, true, true, true, false, false, false]) (by kernel_rfl) ?_
        exact NLP w1y eb a5 c5 HC1
      refine AllReadyL.cons (o := ⟨some 3, _, _, _, _, _⟩) rfl (fun K hK => ?_) ?_
      · go_simp
        have HC1 := Lib.hid (HC0.out.allocD)
        have hHeld2 := HKP.out _ HC1.out.below
        refine hK.out _ _ (fun _ => hHeld2) ?_
        clear hK K hHeld
        have hHeld := hHeld2
        clear hHeld2
        (try simp only [Act.put, List.setIfInBounds_toArray, List.set_cons_zero, List.set_cons_succ])
        generalize w0y.alloc (.cells #[.slice none 0 0, .slice none 0 0, .int .i64 0, .int .i64 0, .slice none 0 0] 41) = w1y at HC1 hHeld ⊢
        generalize w0y.heap.size = db at HC1 ⊢
        refine wpAnyL_norm (l := #[false, false, true, true, true, true, true, true, true, false, false, true, false]) (by kernel_rfl) ?_
        exact NLD w1y eb db HC1
      exact AllReadyL.nil
    · intro w0y db HC0
      have hHeld := HKP.out _ HC0.out.below
      refine wpAnyL_ready (rs := [0, 1, 6]) (by kernel_rfl) (by simp) ?_
      refine AllReadyL.cons (o := ⟨some 7, _, _, _, _, _⟩) rfl (fun K hK => ?_) ?_
      · go_simp
        have HC1 := Lib.hid (HC0.out.allocA)
        have hHeld2 := HKP.out _ HC1.out.below
        refine hK.out _ _ (fun _ => hHeld2) ?_
        clear hK K hHeld
        have hHeld := hHeld2
        clear hHeld2
        (try simp only [Act.put, List.setIfInBounds_toArray, List.set_cons_zero, List.set_cons_succ])
        generalize w0y.alloc (.cells #[] 78) = w1y at HC1 hHeld ⊢
        generalize w0y.heap.size = ab at HC1 ⊢
        refine wpAnyL_norm (l := #[true, false, true, true, true, true, false, true, true, false, false, true, false]) (by kernel_rfl) ?_
        exact NAD w1y ab db HC1
      refine AllReadyL.cons (o := ⟨some 8, _, _, _, _, _⟩) rfl (fun K hK => ?_) ?_
      · go_simp
        have HC1 := Lib.hid (HC0.out.allocB)
        have hHeld2 := HKP.out _ HC1.out.below
        refine hK.out _ _ (fun _ => hHeld2) ?_
        clear hK K hHeld
        have hHeld := hHeld2
        clear hHeld2
        (try simp only [Act.put, List.setIfInBounds_toArray, List.set_cons_zero, List.set_cons_succ])
        generalize w0y.alloc (.cells #[] 83) = w1y at HC1 hHeld ⊢
        generalize w0y.heap.size = bb at HC1 ⊢
        refine wpAnyL_norm (l := #[false, true, true, true, true, true, false, true, true, false, false, true, false]) (by kernel_rfl) ?_
        exact NBD w1y bb db HC1
      refine AllReadyL.cons (o := ⟨some 13, _, _, _, _, _⟩) rfl (fun K hK => ?_) ?_
      · go_simp
        have HC1 := Lib.hid (HC0.out.allocL)
        have hHeld2 := HKP.out _ HC1.out.below
        refine hK.out _ _ (fun _ => hHeld2) ?_
        clear hK K hHeld
        have hHeld := hHeld2
        clear hHeld2
        (try simp only [Act.put, List.setIfInBounds_toArray, List.set_cons_zero, List.set_cons_succ])
        generalize w0y.alloc (.cells #[] 3) = w1y at HC1 hHeld ⊢
        generalize w0y.heap.size = eb at HC1 ⊢
        refine wpAnyL_norm (l := #[false, false, true, true, true, true, true, true, true, false, false, true, false]) (by kernel_rfl) ?_
        exact NLD w1y eb db HC1
      exact AllReadyL.nil
    · intro w0y ab bb HC0
      have hHeld := HKP.out _ HC0.out.below
      refine wpAnyL_ready (rs := [6, 11]) (by kernel_rfl) (by simp) ?_
      refine AllReadyL.cons (o := ⟨some 13, _, _, _, _, _⟩) rfl (fun K hK => ?_) ?_
      · go_simp
        have HC1 := Lib.hid (HC0.out.allocL)
        have hHeld2 := HKP.out _ HC1.out.below
        refine hK.out _ _ (fun _ => hHeld2) ?_
        clear hK K hHeld
        have hHeld := hHeld2
        clear hHeld2
        (try simp only [Act.put, List.setIfInBounds_toArray, List.set_cons_zero, List.set_cons_succ])
        generalize w0y.alloc (.cells #[] 3) = w1y at HC1 hHeld ⊢
        generalize w0y.heap.size = eb at HC1 ⊢
        refine wpAnyL_norm (l := #[true, true, true, true, true, true, true, true, true, false, false, false, false]) (by kernel_rfl) ?_
        exact NABL w1y ab bb eb HC1
      refine AllReadyL.cons (o := ⟨some 3, _, _, _, _, _⟩) rfl (fun K hK => ?_) ?_
      · go_simp
        have HC1 := Lib.hid (HC0.out.allocD)
        have hHeld2 := HKP.out _ HC1.out.below
        refine hK.out _ _ (fun _ => hHeld2) ?_
        clear hK K hHeld
        have hHeld := hHeld2
        clear hHeld2
        (try simp only [Act.put, List.setIfInBounds_toArray, List.set_cons_zero, List.set_cons_succ])
        generalize w0y.alloc (.cells #[.slice none 0 0, .slice none 0 0, .int .i64 0, .int .i64 0, .slice none 0 0] 41) = w1y at HC1 hHeld ⊢
        generalize w0y.heap.size = db at HC1 ⊢
        refine wpAnyL_norm (l := #[true, true, true, true, true, true, false, true, true, false, false, true, false]) (by kernel_rfl) ?_
        exact NABD w1y ab bb db HC1
      exact AllReadyL.nil
    · intro w0y ab eb HC0
      have hHeld := HKP.out _ HC0.out.below
      refine wpAnyL_ready (rs := [1, 9, 11]) (by kernel_rfl) (by simp) ?_
      refine AllReadyL.cons (o := ⟨some 8, _, _, _, _, _⟩) rfl (fun K hK => ?_) ?_
      · go_simp
        have HC1 := Lib.hid (HC0.out.allocB)
        have hHeld2 := HKP.out _ HC1.out.below
        refine hK.out _ _ (fun _ => hHeld2) ?_
        clear hK K hHeld
        have hHeld := hHeld2
        clear hHeld2
        (try simp only [Act.put, List.setIfInBounds_toArray, List.set_cons_zero, List.set_cons_succ])
        generalize w0y.alloc (.cells #[] 83) = w1y at HC1 hHeld ⊢
        generalize w0y.heap.size = bb at HC1 ⊢
        refine wpAnyL_norm (l := #[true, true, true, true, true, true, true, true, true, false, false, false, false]) (by kernel_rfl) ?_
        exact NABL w1y ab bb eb HC1
      refine AllReadyL.cons (o := ⟨some 16, _, _, _, _, _⟩) rfl (fun K hK => ?_) ?_
      · refine step_app_ints rfl (.tmp 13) (.tmp 15) rfl W1.heap.size _ 0 [] rfl (HC0.out.l _ _ _ rfl) nx_a x.nx.length nx_c x.nx rfl rfl (HNX.out.2.1.row.later HC0.out.below) HNX.out.1.2 HNX.out.2.2 HC0.out.below.size ?_
        intro a5 c5 w1y hown5 hg5 hlies5
        simp only [Nat.zero_add, List.nil_append] at hown5 hlies5 ⊢
        have HC1 := Lib.hid (HC0.out.app hown5 hg5)
        clear hown5 hg5 hlies5
        have hHeld2 := HKP.out _ HC1.out.below
        refine hK.out _ _ (fun _ => hHeld2) ?_
        clear hK K hHeld
        have hHeld := hHeld2
        clear hHeld2
        (try simp only [Act.put, List.setIfInBounds_toArray, List.set_cons_zero, List.set_cons_succ])
        refine wpAnyL_norm (l := #[true, false, true, true, true, true, true, true, true, true, false, false, false]) (by kernel_rfl) ?_
        exact NALP w1y ab eb a5 c5 HC1
      refine AllReadyL.cons (o := ⟨some 3, _, _, _, _, _⟩) rfl (fun K hK => ?_) ?_
      · go_simp
        have HC1 := Lib.hid (HC0.out.allocD)
        have hHeld2 := HKP.out _ HC1.out.below
        refine hK.out _ _ (fun _ => hHeld2) ?_
        clear hK K hHeld
        have hHeld := hHeld2
        clear hHeld2
        (try simp only [Act.put, List.setIfInBounds_toArray, List.set_cons_zero, List.set_cons_succ])
        generalize w0y.alloc (.cells #[.slice none 0 0, .slice none 0 0, .int .i64 0, .int .i64 0, .slice none 0 0] 41) = w1y at HC1 hHeld ⊢
        generalize w0y.heap.size = db at HC1 ⊢
        refine wpAnyL_norm (l := #[true, false, true, true, true, true, true, true, true, false, false, true, false]) (by kernel_rfl) ?_
        exact NALD w1y ab eb db HC1
      exact AllReadyL.nil
    · intro w0y ab db HC0
      have hHeld := HKP.out _ HC0.out.below
      refine wpAnyL_ready (rs := [1, 6]) (by kernel_rfl) (by simp) ?_
      refine AllReadyL.cons (o := ⟨some 8, _, _, _, _, _⟩) rfl (fun K hK => ?_) ?_
      · go_simp
        have HC1 := Lib.hid (HC0.out.allocB)
        have hHeld2 := HKP.out _ HC1.out.below
        refine hK.out _ _ (fun _ => hHeld2) ?_
        clear hK K hHeld
        have hHeld := hHeld2
        clear hHeld2
        (try simp only [Act.put, List.setIfInBounds_toArray, List.set_cons_zero, List.set_cons_succ])
        generalize w0y.alloc (.cells #[] 83) = w1y at HC1 hHeld ⊢
        generalize w0y.heap.size = bb at HC1 ⊢
        refine wpAnyL_norm (l := #[true, true, true, true, true, true, false, true, true, false, false, true, false]) (by kernel_rfl) ?_
        exact NABD w1y ab bb db HC1
      refine AllReadyL.cons (o := ⟨some 13, _, _, _, _, _⟩) rfl (fun K hK => ?_) ?_
      · go_simp
        have HC1 := Lib.hid (HC0.out.allocL)
        have hHeld2 := HKP.out _ HC1.out.below
        refine hK.out _ _ (fun _ => hHeld2) ?_
        clear hK K hHeld
        have hHeld := hHeld2
        clear hHeld2
        (try simp only [Act.put, List.setIfInBounds_toArray, List.set_cons_zero, List.set_cons_succ])
        generalize w0y.alloc (.cells #[] 3) = w1y at HC1 hHeld ⊢
        generalize w0y.heap.size = eb at HC1 ⊢
        refine wpAnyL_norm (l := #[true, false, true, true, true, true, true, true, true, false, false, true, false]) (by kernel_rfl) ?_
        exact NALD w1y ab eb db HC1
      exact AllReadyL.nil
    · intro w0y bb eb HC0
      have hHeld := HKP.out _ HC0.out.below
      refine wpAnyL_ready (rs := [0, 9, 11]) (by kernel_rfl) (by simp) ?_
      refine AllReadyL.cons (o := ⟨some 7, _, _, _, _, _⟩) rfl (fun K hK => ?_) ?_
      · go_simp
        have HC1 := Lib.hid (HC0.out.allocA)
        have hHeld2 := HKP.out _ HC1.out.below
        refine hK.out _ _ (fun _ => hHeld2) ?_
        clear hK K hHeld
        have hHeld := hHeld2
        clear hHeld2
        (try simp only [Act.put, List.setIfInBounds_toArray, List.set_cons_zero, List.set_cons_succ])
        generalize w0y.alloc (.cells #[] 78) = w1y at HC1 hHeld ⊢
        generalize w0y.heap.size = ab at HC1 ⊢
        refine wpAnyL_norm (l := #[true, true, true, true, true, true, true, true, true, false, false, false, false]) (by kernel_rfl) ?_
        exact NABL w1y ab bb eb HC1
      refine AllReadyL.cons (o := ⟨some 16, _, _, _, _, _⟩) rfl (fun K hK => ?_) ?_
      · refine step_app_ints rfl (.tmp 13) (.tmp 15) rfl W1.heap.size _ 0 [] rfl (HC0.out.l _ _ _ rfl) nx_a x.nx.length nx_c x.nx rfl rfl (HNX.out.2.1.row.later HC0.out.below) HNX.out.1.2 HNX.out.2.2 HC0.out.below.size ?_
        intro a5 c5 w1y hown5 hg5 hlies5
        simp only [Nat.zero_add, List.nil_append] at hown5 hlies5 ⊢
        have HC1 := Lib.hid (HC0.out.app hown5 hg5)
        clear hown5 hg5 hlies5
        have hHeld2 := HKP.out _ HC1.out.below
        refine hK.out _ _ (fun _ => hHeld2) ?_
        clear hK K hHeld
        have hHeld := hHeld2
        clear hHeld2
        (try simp only [Act.put, List.setIfInBounds_toArray, List.set_cons_zero, List.set_cons_succ])
        refine wpAnyL_norm (l := #[false, true, true, true, true, true, true, true, true, true, false, false, false]) (by kernel_rfl) ?_
        exact NBLP w1y bb eb a5 c5 HC1
      refine AllReadyL.cons (o := ⟨some 3, _, _, _, _, _⟩) rfl (fun K hK => ?_) ?_
      · go_simp
        have HC1 := Lib.hid (HC0.out.allocD)
        have hHeld2 := HKP.out _ HC1.out.below
        refine hK.out _ _ (fun _ => hHeld2) ?_
        clear hK K hHeld
        have hHeld := hHeld2
        clear hHeld2
        (try simp only [Act.put, List.setIfInBounds_toArray, List.set_cons_zero, List.set_cons_succ])
        generalize w0y.alloc (.cells #[.slice none 0 0, .slice none 0 0, .int .i64 0, .int .i64 0, .slice none 0 0] 41) = w1y at HC1 hHeld ⊢
        generalize w0y.heap.size = db at HC1 ⊢
        refine wpAnyL_norm (l := #[false, true, true, true, true, true, true, true, true, false, false, true, false]) (by kernel_rfl) ?_
        exact NBLD w1y bb eb db HC1
      exact AllReadyL.nil
    · intro w0y bb db HC0
      have hHeld := HKP.out _ HC0.out.below
      refine wpAnyL_ready (rs := [0, 6]) (by kernel_rfl) (by simp) ?_
      refine AllReadyL.cons (o := ⟨some 7, _, _, _, _, _⟩) rfl (fun K hK => ?_) ?_
      · go_simp
        have HC1 := Lib.hid (HC0.out.allocA)
        have hHeld2 := HKP.out _ HC1.out.below
        refine hK.out _ _ (fun _ => hHeld2) ?_
        clear hK K hHeld
        have hHeld := hHeld2
        clear hHeld2
        (try simp only [Act.put, List.setIfInBounds_toArray, List.set_cons_zero, List.set_cons_succ])
        generalize w0y.alloc (.cells #[] 78) = w1y at HC1 hHeld ⊢
        generalize w0y.heap.size = ab at HC1 ⊢
        refine wpAnyL_norm (l := #[true, true, true, true, true, true, false, true, true, false, false, true, false]) (by kernel_rfl) ?_
        exact NABD w1y ab bb db HC1
      refine AllReadyL.cons (o := ⟨some 13, _, _, _, _, _⟩) rfl (fun K hK => ?_) ?_
      · go_simp
        have HC1 := Lib.hid (HC0.out.allocL)
        have hHeld2 := HKP.out _ HC1.out.below
        refine hK.out _ _ (fun _ => hHeld2) ?_
        clear hK K hHeld
        have hHeld := hHeld2
        clear hHeld2
        (try simp only [Act.put, List.setIfInBounds_toArray, List.set_cons_zero, List.set_cons_succ])
        generalize w0y.alloc (.cells #[] 3) = w1y at HC1 hHeld ⊢
        generalize w0y.heap.size = eb at HC1 ⊢
        refine wpAnyL_norm (l := #[false, true, true, true, true, true, true, true, true, false, false, true, false]) (by kernel_rfl) ?_
        exact NBLD w1y bb eb db HC1
      exact AllReadyL.nil
    · intro w0y eb a5 c5 HC0
      have hHeld := HKP.out _ HC0.out.below
      refine wpAnyL_ready (rs := [0, 1, 11]) (by kernel_rfl) (by simp) ?_
      refine AllReadyL.cons (o := ⟨some 7, _, _, _, _, _⟩) rfl (fun K hK => ?_) ?_
      · go_simp
        have HC1 := Lib.hid (HC0.out.allocA)
        have hHeld2 := HKP.out _ HC1.out.below
        refine hK.out _ _ (fun _ => hHeld2) ?_
        clear hK K hHeld
        have hHeld := hHeld2
        clear hHeld2
        (try simp only [Act.put, List.setIfInBounds_toArray, List.set_cons_zero, List.set_cons_succ])
        generalize w0y.alloc (.cells #[] 78) = w1y at HC1 hHeld ⊢
        generalize w0y.heap.size = ab at HC1 ⊢
        refine wpAnyL_norm (l := #[true, false, true, true, true, true, true, true, true, true, false, false, false]) (by kernel_rfl) ?_
        exact NALP w1y ab eb a5 c5 HC1
      refine AllReadyL.cons (o := ⟨some 8, _, _, _, _, _⟩) rfl (fun K hK => ?_) ?_
      · go_simp
        have HC1 := Lib.hid (HC0.out.allocB)
        have hHeld2 := HKP.out _ HC1.out.below
        refine hK.out _ _ (fun _ => hHeld2) ?_
        clear hK K hHeld
        have hHeld := hHeld2
        clear hHeld2
        (try simp only [Act.put, List.setIfInBounds_toArray, List.set_cons_zero, List.set_cons_succ])
        generalize w0y.alloc (.cells #[] 83) = w1y at HC1 hHeld ⊢
        generalize w0y.heap.size = bb at HC1 ⊢
        refine wpAnyL_norm (l := #[false, true, true, true, true, true, true, true, true, true, false, false, false]) (by kernel_rfl) ?_
        exact NBLP w1y bb eb a5 c5 HC1
      refine AllReadyL.cons (o := ⟨some 3, _, _, _, _, _⟩) rfl (fun K hK => ?_) ?_
      · go_simp
        have HC1 := Lib.hid (HC0.out.allocD)
        have hHeld2 := HKP.out _ HC1.out.below
        refine hK.out _ _ (fun _ => hHeld2) ?_
        clear hK K hHeld
        have hHeld := hHeld2
        clear hHeld2
        (try simp only [Act.put, List.setIfInBounds_toArray, List.set_cons_zero, List.set_cons_succ])
        generalize w0y.alloc (.cells #[.slice none 0 0, .slice none 0 0, .int .i64 0, .int .i64 0, .slice none 0 0] 41) = w1y at HC1 hHeld ⊢
        generalize w0y.heap.size = db at HC1 ⊢
        refine wpAnyL_norm (l := #[false, false, true, true, true, true, true, true, true, true, false, true, false]) (by kernel_rfl) ?_
        exact NLPD w1y eb db a5 c5 HC1
      exact AllReadyL.nil
    · intro w0y eb db HC0
      have hHeld := HKP.out _ HC0.out.below
      refine wpAnyL_ready (rs := [0, 1, 9]) (by kernel_rfl) (by simp) ?_
      refine AllReadyL.cons (o := ⟨some 7, _, _, _, _, _⟩) rfl (fun K hK => ?_) ?_
      · go_simp
        have HC1 := Lib.hid (HC0.out.allocA)
        have hHeld2 := HKP.out _ HC1.out.below
        refine hK.out _ _ (fun _ => hHeld2) ?_
        clear hK K hHeld
        have hHeld := hHeld2
        clear hHeld2
        (try simp only [Act.put, List.setIfInBounds_toArray, List.set_cons_zero, List.set_cons_succ])
        generalize w0y.alloc (.cells #[] 78) = w1y at HC1 hHeld ⊢
        generalize w0y.heap.size = ab at HC1 ⊢
        refine wpAnyL_norm (l := #[true, false, true, true, true, true, true, true, true, false, false, true, false]) (by kernel_rfl) ?_
        exact NALD w1y ab eb db HC1
      refine AllReadyL.cons (o := ⟨some 8, _, _, _, _, _⟩) rfl (fun K hK => ?_) ?_
      · go_simp
        have HC1 := Lib.hid (HC0.out.allocB)
        have hHeld2 := HKP.out _ HC1.out.below
        refine hK.out _ _ (fun _ => hHeld2) ?_
        clear hK K hHeld
        have hHeld := hHeld2
        clear hHeld2
        (try simp only [Act.put, List.setIfInBounds_toArray, List.set_cons_zero, List.set_cons_succ])
        generalize w0y.alloc (.cells #[] 83) = w1y at HC1 hHeld ⊢
        generalize w0y.heap.size = bb at HC1 ⊢
        refine wpAnyL_norm (l := #[false, true, true, true, true, true, true, true, true, false, false, true, false]) (by kernel_rfl) ?_
        exact NBLD w1y bb eb db HC1
      refine AllReadyL.cons (o := ⟨some 16, _, _, _, _, _⟩) rfl (fun K hK => ?_) ?_
      · refine step_app_ints rfl (.tmp 13) (.tmp 15) rfl W1.heap.size _ 0 [] rfl (HC0.out.l _ _ _ rfl) nx_a x.nx.length nx_c x.nx rfl rfl (HNX.out.2.1.row.later HC0.out.below) HNX.out.1.2 HNX.out.2.2 HC0.out.below.size ?_
        intro a5 c5 w1y hown5 hg5 hlies5
        simp only [Nat.zero_add, List.nil_append] at hown5 hlies5 ⊢
        have HC1 := Lib.hid (HC0.out.app hown5 hg5)
        clear hown5 hg5 hlies5
        have hHeld2 := HKP.out _ HC1.out.below
        refine hK.out _ _ (fun _ => hHeld2) ?_
        clear hK K hHeld
        have hHeld := hHeld2
        clear hHeld2
        (try simp only [Act.put, List.setIfInBounds_toArray, List.set_cons_zero, List.set_cons_succ])
        refine wpAnyL_norm (l := #[false, false, true, true, true, true, true, true, true, true, false, true, false]) (by kernel_rfl) ?_
        exact NLPD w1y eb db a5 c5 HC1
      exact AllReadyL.nil
    · intro w0y ab bb eb HC0
      have hHeld := HKP.out _ HC0.out.below
      refine wpAnyL_ready (rs := [9, 11]) (by kernel_rfl) (by simp) ?_
      refine AllReadyL.cons (o := ⟨some 16, _, _, _, _, _⟩) rfl (fun K hK => ?_) ?_
      · refine step_app_ints rfl (.tmp 13) (.tmp 15) rfl W1.heap.size _ 0 [] rfl (HC0.out.l _ _ _ rfl) nx_a x.nx.length nx_c x.nx rfl rfl (HNX.out.2.1.row.later HC0.out.below) HNX.out.1.2 HNX.out.2.2 HC0.out.below.size ?_
        intro a5 c5 w1y hown5 hg5 hlies5
        simp only [Nat.zero_add, List.nil_append] at hown5 hlies5 ⊢
        have HC1 := Lib.hid (HC0.out.app hown5 hg5)
        clear hown5 hg5 hlies5
        have hHeld2 := HKP.out _ HC1.out.below
        refine hK.out _ _ (fun _ => hHeld2) ?_
        clear hK K hHeld
        have hHeld := hHeld2
        clear hHeld2
        (try simp only [Act.put, List.setIfInBounds_toArray, List.set_cons_zero, List.set_cons_succ])
        refine wpAnyL_take 12 (i := 10) (oi := ⟨some 17, _, _, _, _, _⟩) (v := ?_) rfl (by kernel_rfl) (by kernel_rfl) (by kernel_rfl) (by kernel_rfl) (fun _ _ _ h => h) (Or.inl ⟨by rfl, ?_⟩) hHeld ?_
        rotate_left
        · (intro w hSw; (try dsimp only at hSw); go_simp; all_goals (try with_reducible rfl))
        (try simp only [Act.put, List.setIfInBounds_toArray, List.set_cons_zero, List.set_cons_succ])
        refine wpAnyL_norm (l := #[true, true, true, true, true, true, true, true, true, true, true, false, false]) (by kernel_rfl) ?_
        exact NABLP w1y ab bb eb a5 c5 HC1
      refine AllReadyL.cons (o := ⟨some 3, _, _, _, _, _⟩) rfl (fun K hK => ?_) ?_
      · go_simp
        have HC1 := Lib.hid (HC0.out.allocD)
        have hHeld2 := HKP.out _ HC1.out.below
        refine hK.out _ _ (fun _ => hHeld2) ?_
        clear hK K hHeld
        have hHeld := hHeld2
        clear hHeld2
        (try simp only [Act.put, List.setIfInBounds_toArray, List.set_cons_zero, List.set_cons_succ])
        generalize w0y.alloc (.cells #[.slice none 0 0, .slice none 0 0, .int .i64 0, .int .i64 0, .slice none 0 0] 41) = w1y at HC1 hHeld ⊢
        generalize w0y.heap.size = db at HC1 ⊢
        refine wpAnyL_norm (l := #[true, true, true, true, true, true, true, true, true, false, false, true, false]) (by kernel_rfl) ?_
        exact NABLD w1y ab bb eb db HC1
      exact AllReadyL.nil
    · intro w0y ab bb db HC0
      have hHeld := HKP.out _ HC0.out.below
      refine wpAnyL_ready (rs := [6]) (by kernel_rfl) (by simp) ?_
      refine AllReadyL.cons (o := ⟨some 13, _, _, _, _, _⟩) rfl (fun K hK => ?_) ?_
      · go_simp
        have HC1 := Lib.hid (HC0.out.allocL)
        have hHeld2 := HKP.out _ HC1.out.below
        refine hK.out _ _ (fun _ => hHeld2) ?_
        clear hK K hHeld
        have hHeld := hHeld2
        clear hHeld2
        (try simp only [Act.put, List.setIfInBounds_toArray, List.set_cons_zero, List.set_cons_succ])
        generalize w0y.alloc (.cells #[] 3) = w1y at HC1 hHeld ⊢
        generalize w0y.heap.size = eb at HC1 ⊢
        refine wpAnyL_norm (l := #[true, true, true, true, true, true, true, true, true, false, false, true, false]) (by kernel_rfl) ?_
        exact NABLD w1y ab bb eb db HC1
      exact AllReadyL.nil
    · intro w0y ab eb a5 c5 HC0
      have hHeld := HKP.out _ HC0.out.below
      refine wpAnyL_ready (rs := [1, 11]) (by kernel_rfl) (by simp) ?_
      refine AllReadyL.cons (o := ⟨some 8, _, _, _, _, _⟩) rfl (fun K hK => ?_) ?_
      · go_simp
        have HC1 := Lib.hid (HC0.out.allocB)
        have hHeld2 := HKP.out _ HC1.out.below
        refine hK.out _ _ (fun _ => hHeld2) ?_
        clear hK K hHeld
        have hHeld := hHeld2
        clear hHeld2
        (try simp only [Act.put, List.setIfInBounds_toArray, List.set_cons_zero, List.set_cons_succ])
        generalize w0y.alloc (.cells #[] 83) = w1y at HC1 hHeld ⊢
        generalize w0y.heap.size = bb at HC1 ⊢
        refine wpAnyL_take 12 (i := 10) (oi := ⟨some 17, _, _, _, _, _⟩) (v := ?_) rfl (by kernel_rfl) (by kernel_rfl) (by kernel_rfl) (by kernel_rfl) (fun _ _ _ h => h) (Or.inl ⟨by rfl, ?_⟩) hHeld ?_
        rotate_left
        · (intro w hSw; (try dsimp only at hSw); go_simp; all_goals (try with_reducible rfl))
        (try simp only [Act.put, List.setIfInBounds_toArray, List.set_cons_zero, List.set_cons_succ])
        refine wpAnyL_norm (l := #[true, true, true, true, true, true, true, true, true, true, true, false, false]) (by kernel_rfl) ?_
        exact NABLP w1y ab bb eb a5 c5 HC1
      refine AllReadyL.cons (o := ⟨some 3, _, _, _, _, _⟩) rfl (fun K hK => ?_) ?_
      · go_simp
        have HC1 := Lib.hid (HC0.out.allocD)
        have hHeld2 := HKP.out _ HC1.out.below
        refine hK.out _ _ (fun _ => hHeld2) ?_
        clear hK K hHeld
        have hHeld := hHeld2
        clear hHeld2
        (try simp only [Act.put, List.setIfInBounds_toArray, List.set_cons_zero, List.set_cons_succ])
        generalize w0y.alloc (.cells #[.slice none 0 0, .slice none 0 0, .int .i64 0, .int .i64 0, .slice none 0 0] 41) = w1y at HC1 hHeld ⊢
        generalize w0y.heap.size = db at HC1 ⊢
        refine wpAnyL_norm (l := #[true, false, true, true, true, true, true, true, true, true, false, true, false]) (by kernel_rfl) ?_
        exact NALPD w1y ab eb db a5 c5 HC1
      exact AllReadyL.nil
    · intro w0y ab eb db HC0
      have hHeld := HKP.out _ HC0.out.below
      refine wpAnyL_ready (rs := [1, 9]) (by kernel_rfl) (by simp) ?_
      refine AllReadyL.cons (o := ⟨some 8, _, _, _, _, _⟩) rfl (fun K hK => ?_) ?_
      · go_simp
        have HC1 := Lib.hid (HC0.out.allocB)
        have hHeld2 := HKP.out _ HC1.out.below
        refine hK.out _ _ (fun _ => hHeld2) ?_
        clear hK K hHeld
        have hHeld := hHeld2
        clear hHeld2
        (try simp only [Act.put, List.setIfInBounds_toArray, List.set_cons_zero, List.set_cons_succ])
        generalize w0y.alloc (.cells #[] 83) = w1y at HC1 hHeld ⊢
        generalize w0y.heap.size = bb at HC1 ⊢
        refine wpAnyL_norm (l := #[true, true, true, true, true, true, true, true, true, false, false, true, false]) (by kernel_rfl) ?_
        exact NABLD w1y ab bb eb db HC1
      refine AllReadyL.cons (o := ⟨some 16, _, _, _, _, _⟩) rfl (fun K hK => ?_) ?_
      · refine step_app_ints rfl (.tmp 13) (.tmp 15) rfl W1.heap.size _ 0 [] rfl (HC0.out.l _ _ _ rfl) nx_a x.nx.length nx_c x.nx rfl rfl (HNX.out.2.1.row.later HC0.out.below) HNX.out.1.2 HNX.out.2.2 HC0.out.below.size ?_
        intro a5 c5 w1y hown5 hg5 hlies5
        simp only [Nat.zero_add, List.nil_append] at hown5 hlies5 ⊢
        have HC1 := Lib.hid (HC0.out.app hown5 hg5)
        clear hown5 hg5 hlies5
        have hHeld2 := HKP.out _ HC1.out.below
        refine hK.out _ _ (fun _ => hHeld2) ?_
        clear hK K hHeld
        have hHeld := hHeld2
        clear hHeld2
        (try simp only [Act.put, List.setIfInBounds_toArray, List.set_cons_zero, List.set_cons_succ])
        refine wpAnyL_norm (l := #[true, false, true, true, true, true, true, true, true, true, false, true, false]) (by kernel_rfl) ?_
        exact NALPD w1y ab eb db a5 c5 HC1
      exact AllReadyL.nil
    · intro w0y bb eb a5 c5 HC0
      have hHeld := HKP.out _ HC0.out.below
      refine wpAnyL_ready (rs := [0, 11]) (by kernel_rfl) (by simp) ?_
      refine AllReadyL.cons (o := ⟨some 7, _, _, _, _, _⟩) rfl (fun K hK => ?_) ?_
      · go_simp
        have HC1 := Lib.hid (HC0.out.allocA)
        have hHeld2 := HKP.out _ HC1.out.below
        refine hK.out _ _ (fun _ => hHeld2) ?_
        clear hK K hHeld
        have hHeld := hHeld2
        clear hHeld2
        (try simp only [Act.put, List.setIfInBounds_toArray, List.set_cons_zero, List.set_cons_succ])
        generalize w0y.alloc (.cells #[] 78) = w1y at HC1 hHeld ⊢
        generalize w0y.heap.size = ab at HC1 ⊢
        refine wpAnyL_take 12 (i := 10) (oi := ⟨some 17, _, _, _, _, _⟩) (v := ?_) rfl (by kernel_rfl) (by kernel_rfl) (by kernel_rfl) (by kernel_rfl) (fun _ _ _ h => h) (Or.inl ⟨by rfl, ?_⟩) hHeld ?_
        rotate_left
        · (intro w hSw; (try dsimp only at hSw); go_simp; all_goals (try with_reducible rfl))
        (try simp only [Act.put, List.setIfInBounds_toArray, List.set_cons_zero, List.set_cons_succ])
        refine wpAnyL_norm (l := #[true, true, true, true, true, true, true, true, true, true, true, false, false]) (by kernel_rfl) ?_
        exact NABLP w1y ab bb eb a5 c5 HC1
      refine AllReadyL.cons (o := ⟨some 3, _, _, _, _, _⟩) rfl (fun K hK => ?_) ?_
      · go_simp
        have HC1 := Lib.hid (HC0.out.allocD)
        have hHeld2 := HKP.out _ HC1.out.below
        refine hK.out _ _ (fun _ => hHeld2) ?_
        clear hK K hHeld
        have hHeld := hHeld2
        clear hHeld2
        (try simp only [Act.put, List.setIfInBounds_toArray, List.set_cons_zero, List.set_cons_succ])
        generalize w0y.alloc (.cells #[.slice none 0 0, .slice none 0 0, .int .i64 0, .int .i64 0, .slice none 0 0] 41) = w1y at HC1 hHeld ⊢
        generalize w0y.heap.size = db at HC1 ⊢
        refine wpAnyL_norm (l := #[false, true, true, true, true, true, true, true, true, true, false, true, false]) (by kernel_rfl) ?_
        exact NBLPD w1y bb eb db a5 c5 HC1
      exact AllReadyL.nil
    · intro w0y bb eb db HC0
      have hHeld := HKP.out _ HC0.out.below
      refine wpAnyL_ready (rs := [0, 9]) (by kernel_rfl) (by simp) ?_
      refine AllReadyL.cons (o := ⟨some 7, _, _, _, _, _⟩) rfl (fun K hK => ?_) ?_
      · go_simp
        have HC1 := Lib.hid (HC0.out.allocA)
        have hHeld2 := HKP.out _ HC1.out.below
        refine hK.out _ _ (fun _ => hHeld2) ?_
        clear hK K hHeld
        have hHeld := hHeld2
        clear hHeld2
        (try simp only [Act.put, List.setIfInBounds_toArray, List.set_cons_zero, List.set_cons_succ])
        generalize w0y.alloc (.cells #[] 78) = w1y at HC1 hHeld ⊢
        generalize w0y.heap.size = ab at HC1 ⊢
        refine wpAnyL_norm (l := #[true, true, true, true, true, true, true, true, true, false, false, true, false]) (by kernel_rfl) ?_
        exact NABLD w1y ab bb eb db HC1
      refine AllReadyL.cons (o := ⟨some 16, _, _, _, _, _⟩) rfl (fun K hK => ?_) ?_
      · refine step_app_ints rfl (.tmp 13) (.tmp 15) rfl W1.heap.size _ 0 [] rfl (HC0.out.l _ _ _ rfl) nx_a x.nx.length nx_c x.nx rfl rfl (HNX.out.2.1.row.later HC0.out.below) HNX.out.1.2 HNX.out.2.2 HC0.out.below.size ?_
        intro a5 c5 w1y hown5 hg5 hlies5
        simp only [Nat.zero_add, List.nil_append] at hown5 hlies5 ⊢
        have HC1 := Lib.hid (HC0.out.app hown5 hg5)
        clear hown5 hg5 hlies5
        have hHeld2 := HKP.out _ HC1.out.below
        refine hK.out _ _ (fun _ => hHeld2) ?_
        clear hK K hHeld
        have hHeld := hHeld2
        clear hHeld2
        (try simp only [Act.put, List.setIfInBounds_toArray, List.set_cons_zero, List.set_cons_succ])
        refine wpAnyL_norm (l := #[false, true, true, true, true, true, true, true, true, true, false, true, false]) (by kernel_rfl) ?_
        exact NBLPD w1y bb eb db a5 c5 HC1
      exact AllReadyL.nil
    · intro w0y eb db a5 c5 HC0
      have hHeld := HKP.out _ HC0.out.below
      refine wpAnyL_ready (rs := [0, 1]) (by kernel_rfl) (by simp) ?_
      refine AllReadyL.cons (o := ⟨some 7, _, _, _, _, _⟩) rfl (fun K hK => ?_) ?_
      · go_simp
        have HC1 := Lib.hid (HC0.out.allocA)
        have hHeld2 := HKP.out _ HC1.out.below
        refine hK.out _ _ (fun _ => hHeld2) ?_
        clear hK K hHeld
        have hHeld := hHeld2
        clear hHeld2
        (try simp only [Act.put, List.setIfInBounds_toArray, List.set_cons_zero, List.set_cons_succ])
        generalize w0y.alloc (.cells #[] 78) = w1y at HC1 hHeld ⊢
        generalize w0y.heap.size = ab at HC1 ⊢
        refine wpAnyL_norm (l := #[true, false, true, true, true, true, true, true, true, true, false, true, false]) (by kernel_rfl) ?_
        exact NALPD w1y ab eb db a5 c5 HC1
      refine AllReadyL.cons (o := ⟨some 8, _, _, _, _, _⟩) rfl (fun K hK => ?_) ?_
      · go_simp
        have HC1 := Lib.hid (HC0.out.allocB)
        have hHeld2 := HKP.out _ HC1.out.below
        refine hK.out _ _ (fun _ => hHeld2) ?_
        clear hK K hHeld
        have hHeld := hHeld2
        clear hHeld2
        (try simp only [Act.put, List.setIfInBounds_toArray, List.set_cons_zero, List.set_cons_succ])
        generalize w0y.alloc (.cells #[] 83) = w1y at HC1 hHeld ⊢
        generalize w0y.heap.size = bb at HC1 ⊢
        refine wpAnyL_norm (l := #[false, true, true, true, true, true, true, true, true, true, false, true, false]) (by kernel_rfl) ?_
        exact NBLPD w1y bb eb db a5 c5 HC1
      exact AllReadyL.nil
    · intro w0y ab bb eb a5 c5 HC0
      have hHeld := HKP.out _ HC0.out.below
      refine wpAnyL_ready (rs := [11]) (by kernel_rfl) (by simp) ?_
      refine AllReadyL.cons (o := ⟨some 3, _, _, _, _, _⟩) rfl (fun K hK => ?_) ?_
      · go_simp
        have HC1 := Lib.hid (HC0.out.allocD)
        have hHeld2 := HKP.out _ HC1.out.below
        refine hK.out _ _ (fun _ => hHeld2) ?_
        clear hK K hHeld
        have hHeld := hHeld2
        clear hHeld2
        (try simp only [Act.put, List.setIfInBounds_toArray, List.set_cons_zero, List.set_cons_succ])
        generalize w0y.alloc (.cells #[.slice none 0 0, .slice none 0 0, .int .i64 0, .int .i64 0, .slice none 0 0] 41) = w1y at HC1 hHeld ⊢
        generalize w0y.heap.size = db at HC1 ⊢
        refine wpAnyL_norm (l := #[true, true, true, true, true, true, true, true, true, true, true, true, false]) (by kernel_rfl) ?_
        exact NABLPD w1y ab bb eb db a5 c5 HC1
      exact AllReadyL.nil
    · intro w0y ab bb eb db HC0
      have hHeld := HKP.out _ HC0.out.below
      refine wpAnyL_ready (rs := [9]) (by kernel_rfl) (by simp) ?_
      refine AllReadyL.cons (o := ⟨some 16, _, _, _, _, _⟩) rfl (fun K hK => ?_) ?_
      · refine step_app_ints rfl (.tmp 13) (.tmp 15) rfl W1.heap.size _ 0 [] rfl (HC0.out.l _ _ _ rfl) nx_a x.nx.length nx_c x.nx rfl rfl (HNX.out.2.1.row.later HC0.out.below) HNX.out.1.2 HNX.out.2.2 HC0.out.below.size ?_
        intro a5 c5 w1y hown5 hg5 hlies5
        simp only [Nat.zero_add, List.nil_append] at hown5 hlies5 ⊢
        have HC1 := Lib.hid (HC0.out.app hown5 hg5)
        clear hown5 hg5 hlies5
        have hHeld2 := HKP.out _ HC1.out.below
        refine hK.out _ _ (fun _ => hHeld2) ?_
        clear hK K hHeld
        have hHeld := hHeld2
        clear hHeld2
        (try simp only [Act.put, List.setIfInBounds_toArray, List.set_cons_zero, List.set_cons_succ])
        refine wpAnyL_take 12 (i := 10) (oi := ⟨some 17, _, _, _, _, _⟩) (v := ?_) rfl (by kernel_rfl) (by kernel_rfl) (by kernel_rfl) (by kernel_rfl) (fun _ _ _ h => h) (Or.inl ⟨by rfl, ?_⟩) hHeld ?_
        rotate_left
        · (intro w hSw; (try dsimp only at hSw); go_simp; all_goals (try with_reducible rfl))
        (try simp only [Act.put, List.setIfInBounds_toArray, List.set_cons_zero, List.set_cons_succ])
        refine wpAnyL_norm (l := #[true, true, true, true, true, true, true, true, true, true, true, true, false]) (by kernel_rfl) ?_
        exact NABLPD w1y ab bb eb db a5 c5 HC1
      exact AllReadyL.nil
    · intro w0y ab eb db a5 c5 HC0
      have hHeld := HKP.out _ HC0.out.below
      refine wpAnyL_ready (rs := [1]) (by kernel_rfl) (by simp) ?_
      refine AllReadyL.cons (o := ⟨some 8, _, _, _, _, _⟩) rfl (fun K hK => ?_) ?_
      · go_simp
        have HC1 := Lib.hid (HC0.out.allocB)
        have hHeld2 := HKP.out _ HC1.out.below
        refine hK.out _ _ (fun _ => hHeld2) ?_
        clear hK K hHeld
        have hHeld := hHeld2
        clear hHeld2
        (try simp only [Act.put, List.setIfInBounds_toArray, List.set_cons_zero, List.set_cons_succ])
        generalize w0y.alloc (.cells #[] 83) = w1y at HC1 hHeld ⊢
        generalize w0y.heap.size = bb at HC1 ⊢
        refine wpAnyL_take 12 (i := 10) (oi := ⟨some 17, _, _, _, _, _⟩) (v := ?_) rfl (by kernel_rfl) (by kernel_rfl) (by kernel_rfl) (by kernel_rfl) (fun _ _ _ h => h) (Or.inl ⟨by rfl, ?_⟩) hHeld ?_
        rotate_left
        · (intro w hSw; (try dsimp only at hSw); go_simp; all_goals (try with_reducible rfl))
        (try simp only [Act.put, List.setIfInBounds_toArray, List.set_cons_zero, List.set_cons_succ])
        refine wpAnyL_norm (l := #[true, true, true, true, true, true, true, true, true, true, true, true, false]) (by kernel_rfl) ?_
        exact NABLPD w1y ab bb eb db a5 c5 HC1
      exact AllReadyL.nil
    · intro w0y bb eb db a5 c5 HC0
      have hHeld := HKP.out _ HC0.out.below
      refine wpAnyL_ready (rs := [0]) (by kernel_rfl) (by simp) ?_
      refine AllReadyL.cons (o := ⟨some 7, _, _, _, _, _⟩) rfl (fun K hK => ?_) ?_
      · go_simp
        have HC1 := Lib.hid (HC0.out.allocA)
        have hHeld2 := HKP.out _ HC1.out.below
        refine hK.out _ _ (fun _ => hHeld2) ?_
        clear hK K hHeld
        have hHeld := hHeld2
        clear hHeld2
        (try simp only [Act.put, List.setIfInBounds_toArray, List.set_cons_zero, List.set_cons_succ])
        generalize w0y.alloc (.cells #[] 78) = w1y at HC1 hHeld ⊢
        generalize w0y.heap.size = ab at HC1 ⊢
        refine wpAnyL_take 12 (i := 10) (oi := ⟨some 17, _, _, _, _, _⟩) (v := ?_) rfl (by kernel_rfl) (by kernel_rfl) (by kernel_rfl) (by kernel_rfl) (fun _ _ _ h => h) (Or.inl ⟨by rfl, ?_⟩) hHeld ?_
        rotate_left
        · (intro w hSw; (try dsimp only at hSw); go_simp; all_goals (try with_reducible rfl))
        (try simp only [Act.put, List.setIfInBounds_toArray, List.set_cons_zero, List.set_cons_succ])
        refine wpAnyL_norm (l := #[true, true, true, true, true, true, true, true, true, true, true, true, false]) (by kernel_rfl) ?_
        exact NABLPD w1y ab bb eb db a5 c5 HC1
      exact AllReadyL.nil
    · intro w0y ab bb eb db a5 c5 HC0
      have hHeld := HKP.out _ HC0.out.below
      refine wpAnyL_ready (rs := [12]) (by kernel_rfl) (by simp) ?_
      refine AllReadyL.cons (o := ⟨none, _, _, _, _, _⟩) rfl (fun K hK => ?_) ?_
      · have hRow := (HC0.out.d _ rfl).1
        have y0 := frozen_of_row _ _ 0 _ _ hRow
        have y1 := frozen_of_row _ _ 1 _ _ hRow
        have y2 := frozen_of_row _ _ 2 _ _ hRow
        have y3 := frozen_of_row _ _ 3 _ _ hRow
        have y4 := frozen_of_row _ _ 4 _ _ hRow
        have r0 := cell_of_row _ _ 0 _ _ _ hRow
        have r1 := cell_of_row _ _ 1 _ _ _ hRow
        have r2 := cell_of_row _ _ 2 _ _ _ hRow
        have r3 := cell_of_row _ _ 3 _ _ _ hRow
        have r4 := cell_of_row _ _ 4 _ _ _ hRow
        simp only [List.getElem?_toArray, List.getElem?_cons_zero, List.getElem?_cons_succ] at r0 r1 r2 r3 r4
        go_simp
        clear y0 y1 y2 y3 y4 r0 r1 r2 r3 r4 hRow
        have HF := Lib.hid (HC0.out.store (jump := x.jump) (jon := x.jon) rfl)
        rw [setCells5c] at HF
        refine hK.out _ _ (lastL (by kernel_rfl)) ?_
        clear hK K hHeld
        (try simp only [Act.put, List.setIfInBounds_toArray, List.set_cons_zero, List.set_cons_succ])
        refine wpAnyL_done (by kernel_rfl) ?_ _
        go_wp2_with fail
        go_meet
        exact ⟨ab, bb, db, a5, c5, rfl, by simpa only [World.size_setCell] using HF⟩
      exact AllReadyL.nil
  case rest =>
    obtain ⟨ab, bb, db, na, nc, rfl, HF⟩ := hcut
    have HLT := Lib.hid HF.out.2.2.2.2
    have HPL := Lib.hid (show pb < W1.heap.size ∧ rb < W1.heap.size from by have := HR1.out.2.2.2; omega)
    clear HKP HNX
    have hpn : x.phis.length ≤ 1048576 := by have := HS.out; have := szS_len szPhiD x.phis; omega
    have hpi : x.ins.length ≤ 1048576 := by have := HS.out; have := szS_len szInsD x.ins; omega
    go_wp2_with fail
    go_loopg [4] x.phis.length (fun G i wr => ∃ (j : Nat) (oa : Option Addr) (oc : Nat), j + G = x.phis.length ∧ i = .int .i64 j ∧ Hid (CbFin W1 oa j oc (some ⟨bb, 0, none⟩) 0 0 x.jump x.jon na x.nx.length nc db wr ∧ SepK 2 78 PhiK (fun k => k = ab ∨ wc.heap.size ≤ k) wr oa j oc (x.phis.take j) ∧ SepK 4 83 InsK (fun k => k = bb) wr (some ⟨bb, 0, none⟩) 0 0 [] ∧ IntsK (fun k => W1.heap.size ≤ k ∧ k < wc.heap.size ∧ k ≠ ab ∧ k ≠ bb ∧ k ≠ db) wr na x.nx.length nc x.nx ∧ wc.heap.size ≤ wr.heap.size))
    case atStart => exact ⟨0, some ⟨ab, 0, none⟩, 0, by omega, rfl, Lib.hid ⟨HF.out.1, by simpa using HF.out.2.1.mono (fun k h => .inl h), HF.out.2.2.1, HF.out.2.2.2.1, Nat.le_refl _⟩⟩
    case round =>
      obtain ⟨j, oa, oc, hj, rfl, HR⟩ := hrel
      have hpbr := (HR.out.1.below.block pb HPL.out.1).trans HR1.out.2.1
      have p0 := cell_of_row _ _ 0 _ _ _ hpbr
      have p1 := cell_of_row _ _ 1 _ _ _ hpbr
      simp only [List.getElem?_toArray, List.getElem?_cons_zero, List.getElem?_cons_succ] at p0 p1
      have hbw : Below w.heap.size w wr := HR1.out.1.trans (HR.out.1.below.mono HR1.out.1.size)
      by_cases hlt : j < x.phis.length
      · have hlti : (j : Int) < (x.phis.length : Int) := by omega
        have hj0 : (0 : Int) ≤ (j : Int) := by omega
        obtain ⟨b, off, tv, args, aa, ac, rfl, hx, c0, c1, aa', ac', he, ham, har⟩ := phi_place HPR.out.2 hlt
        simp only [List.cons.injEq, Value.slice.injEq, and_true, true_and] at he
        obtain ⟨rfl, rfl⟩ := he
        have HCC := Lib.hid (And.intro c0 c1)
        have HAR := Lib.hid (And.intro ham (har.later hbw))
        have HX := Lib.hid hx
        have HAL := Lib.hid (show 0 + args.length ≤ 4398046511104 from by
          have h1 := szS_mem (sz := szPhiD) (List.mem_of_getElem? hx)
          have h2 := HS.out
          unfold szPhiD at h1
          simp only at h1
          unfold szPhiD at h2
          omega)
        have HSEP := Lib.hid HR.out.2.1
        have HCB := Lib.hid HR.out.1
        have HJ := Lib.hid (show j + 1 ≤ 1099511627776 from by have h2 := HS.out; have := szS_len szPhiD x.phis; omega)
        have HLO := Lib.hid (And.intro HR.out.2.2.2.2 HLT.out)
        have HB5 := Lib.hid ((Below.refl wr.heap.size wr).drew)
        have HKP := Lib.hid (show ∀ W, Below wr.heap.size wr W → (W.cell? ⟨db, 0, none⟩ = some (.slice oa j oc) ∧ W.cell? ⟨pb, 0, none⟩ = some (.slice (some ⟨b, off, none⟩) x.phis.length phis_c) ∧ W.cell? ⟨b, off + j * 2, none⟩ = some (.int .i64 tv) ∧ W.cell? ⟨b, off + j * 2 + 1, none⟩ = some (.slice aa args.length ac)) from fun W hW =>
          ⟨cell_later hW (cell_of_row _ _ 0 _ _ _ HR.out.1.row), cell_later hW p0, cell_later hW (cell_later hbw c0), cell_later hW (cell_later hbw c1)⟩)
        clear hx ham har c0 c1 hpbr
        go_upto_region 5 with fail
        clear p0 p1
        refine wp_region_L (S := (fun W => W.cell? ⟨db, 0, none⟩ = some (.slice oa j oc) ∧ W.cell? ⟨pb, 0, none⟩ = some (.slice (some ⟨b, off, none⟩) x.phis.length phis_c) ∧ W.cell? ⟨b, off + j * 2, none⟩ = some (.int .i64 tv) ∧ W.cell? ⟨b, off + j * 2 + 1, none⟩ = some (.slice aa args.length ac))) (by kernel_rfl) ?_
        have hHeld := HKP.out _ ((Below.refl wr.heap.size wr).drew)
        generalize wr.drew = w5 at HB5 hHeld ⊢
        refine wpAnyL_take 1 (i := 0) (oi := ⟨some 25, _, _, _, _, _⟩) (v := ?_) rfl (by kernel_rfl) (by kernel_rfl) (by kernel_rfl) (by kernel_rfl) (fun _ _ _ h => h) (Or.inl ⟨by rfl, ?_⟩) hHeld ?_
        rotate_left
        · (intro w hSw; (try dsimp only at hSw); go_simp; all_goals (try with_reducible rfl))
        (try simp only [Act.put, List.setIfInBounds_toArray, List.set_cons_zero, List.set_cons_succ])
        refine wpAnyL_take 18 (i := 1) (oi := ⟨some 26, _, _, _, _, _⟩) (v := ?_) rfl (by kernel_rfl) (by kernel_rfl) (by kernel_rfl) (by kernel_rfl) (fun _ _ _ h => h) (Or.inl ⟨by rfl, ?_⟩) hHeld ?_
        rotate_left
        · (intro w hSw; (try dsimp only at hSw); go_simp; all_goals (try with_reducible rfl))
        (try simp only [Act.put, List.setIfInBounds_toArray, List.set_cons_zero, List.set_cons_succ])
        refine wpAnyL_take 3 (i := 2) (oi := ⟨some 27, _, _, _, _, _⟩) (v := ?_) rfl (by kernel_rfl) (by kernel_rfl) (by kernel_rfl) (by kernel_rfl) (fun _ _ _ h => h) (Or.inl ⟨by rfl, ?_⟩) hHeld ?_
        rotate_left
        · (intro w hSw; (try dsimp only at hSw); go_simp; all_goals (try with_reducible rfl))
        (try simp only [Act.put, List.setIfInBounds_toArray, List.set_cons_zero, List.set_cons_succ])
        refine wpAnyL_take 5 (i := 3) (oi := ⟨some 28, _, _, _, _, _⟩) (v := ?_) rfl (by kernel_rfl) (by kernel_rfl) (by kernel_rfl) (by kernel_rfl) (fun _ _ _ h => h) (Or.inl ⟨by rfl, ?_⟩) hHeld ?_
        rotate_left
        · (intro w hSw; (try dsimp only at hSw); go_simp; all_goals (try with_reducible rfl))
        (try simp only [Act.put, List.setIfInBounds_toArray, List.set_cons_zero, List.set_cons_succ])
        refine wpAnyL_take 5 (i := 4) (oi := ⟨some 29, _, _, _, _, _⟩) (v := ?_) rfl (by kernel_rfl) (by kernel_rfl) (by kernel_rfl) (by kernel_rfl) (fun _ _ _ h => h) (Or.inl ⟨by rfl, ?_⟩) hHeld ?_
        rotate_left
        · (intro w hSw; (try dsimp only at hSw); go_simp; all_goals (try with_reducible rfl))
        (try simp only [Act.put, List.setIfInBounds_toArray, List.set_cons_zero, List.set_cons_succ])
        refine wpAnyL_take 6 (i := 5) (oi := ⟨some 30, _, _, _, _, _⟩) (v := ?_) rfl (by kernel_rfl) (by kernel_rfl) (by kernel_rfl) (by kernel_rfl) (fun _ _ _ h => h) (Or.inl ⟨by rfl, ?_⟩) hHeld ?_
        rotate_left
        · (intro w hSw; (try dsimp only at hSw); go_simp; all_goals (try with_reducible rfl))
        (try simp only [Act.put, List.setIfInBounds_toArray, List.set_cons_zero, List.set_cons_succ])
        refine wpAnyL_take 7 (i := 6) (oi := ⟨some 31, _, _, _, _, _⟩) (v := ?_) rfl (by kernel_rfl) (by kernel_rfl) (by kernel_rfl) (by kernel_rfl) (fun _ _ _ h => h) (Or.inl ⟨by rfl, ?_⟩) hHeld ?_
        rotate_left
        · (intro w hSw; (try dsimp only at hSw); go_simp; all_goals (try with_reducible rfl))
        (try simp only [Act.put, List.setIfInBounds_toArray, List.set_cons_zero, List.set_cons_succ])
        refine wpAnyL_take 16 (i := 7) (oi := ⟨some 32, _, _, _, _, _⟩) (v := ?_) rfl (by kernel_rfl) (by kernel_rfl) (by kernel_rfl) (by kernel_rfl) (fun _ _ _ h => h) (Or.inl ⟨by rfl, ?_⟩) hHeld ?_
        rotate_left
        · (intro w hSw; (try dsimp only at hSw); go_simp; all_goals (try with_reducible rfl))
        (try simp only [Act.put, List.setIfInBounds_toArray, List.set_cons_zero, List.set_cons_succ])
        refine wpAnyL_take 10 (i := 9) (oi := ⟨some 34, _, _, _, _, _⟩) (v := ?_) rfl (by kernel_rfl) (by kernel_rfl) (by kernel_rfl) (by kernel_rfl) (fun _ _ _ h => h) (Or.inl ⟨by rfl, ?_⟩) hHeld ?_
        rotate_left
        · (intro w hSw; (try dsimp only at hSw); go_simp; all_goals (try with_reducible rfl))
        (try simp only [Act.put, List.setIfInBounds_toArray, List.set_cons_zero, List.set_cons_succ])
        refine wpAnyL_take 12 (i := 10) (oi := ⟨some 35, _, _, _, _, _⟩) (v := ?_) rfl (by kernel_rfl) (by kernel_rfl) (by kernel_rfl) (by kernel_rfl) (fun _ _ _ h => h) (Or.inl ⟨by rfl, ?_⟩) hHeld ?_
        rotate_left
        · (intro w hSw; (try dsimp only at hSw); go_simp; all_goals (try with_reducible rfl))
        (try simp only [Act.put, List.setIfInBounds_toArray, List.set_cons_zero, List.set_cons_succ])
        refine wpAnyL_take 12 (i := 11) (oi := ⟨some 36, _, _, _, _, _⟩) (v := ?_) rfl (by kernel_rfl) (by kernel_rfl) (by kernel_rfl) (by kernel_rfl) (fun _ _ _ h => h) (Or.inl ⟨by rfl, ?_⟩) hHeld ?_
        rotate_left
        · (intro w hSw; (try dsimp only at hSw); go_simp; all_goals (try with_reducible rfl))
        (try simp only [Act.put, List.setIfInBounds_toArray, List.set_cons_zero, List.set_cons_succ])
        refine wpAnyL_take 13 (i := 12) (oi := ⟨some 37, _, _, _, _, _⟩) (v := ?_) rfl (by kernel_rfl) (by kernel_rfl) (by kernel_rfl) (by kernel_rfl) (fun _ _ _ h => h) (Or.inl ⟨by rfl, ?_⟩) hHeld ?_
        rotate_left
        · (intro w hSw; (try dsimp only at hSw); go_simp; all_goals (try with_reducible rfl))
        (try simp only [Act.put, List.setIfInBounds_toArray, List.set_cons_zero, List.set_cons_succ])
        refine wpAnyL_take 14 (i := 13) (oi := ⟨some 38, _, _, _, _, _⟩) (v := ?_) rfl (by kernel_rfl) (by kernel_rfl) (by kernel_rfl) (by kernel_rfl) (fun _ _ _ h => h) (Or.inl ⟨by rfl, ?_⟩) hHeld ?_
        rotate_left
        · (intro w hSw; (try dsimp only at hSw); go_simp; all_goals (try with_reducible rfl))
        (try simp only [Act.put, List.setIfInBounds_toArray, List.set_cons_zero, List.set_cons_succ])
        refine wpAnyL_take 15 (i := 14) (oi := ⟨some 39, _, _, _, _, _⟩) (v := ?_) rfl (by kernel_rfl) (by kernel_rfl) (by kernel_rfl) (by kernel_rfl) (fun _ _ _ h => h) (Or.inl ⟨by rfl, ?_⟩) hHeld ?_
        rotate_left
        · (intro w hSw; (try dsimp only at hSw); go_simp; all_goals (try with_reducible rfl))
        (try simp only [Act.put, List.setIfInBounds_toArray, List.set_cons_zero, List.set_cons_succ])
        refine wpAnyL_ready (rs := [8]) (by kernel_rfl) (by simp) ?_
        refine AllReadyL.cons (o := ⟨some 33, _, _, _, _, _⟩) rfl (fun K hK => ?_) AllReadyL.nil
        go_simp
        have HB6 := Lib.hid (HB5.out.trans (((Below.refl w5.heap.size w5).alloc (Nat.le_refl _) (.cells #[] 3)).mono HB5.out.size))
        have HO6 := Lib.hid (own_empty w5 wr.heap.size 3 1 HB5.out.size)
        have hHeld2 := HKP.out _ HB6.out
        refine hK.out _ _ (fun _ => hHeld2) ?_
        clear hK K hHeld
        have hHeld := hHeld2
        clear hHeld2
        (try simp only [Act.put, List.setIfInBounds_toArray, List.set_cons_zero, List.set_cons_succ])
        generalize w5.alloc (.cells #[] 3) = w6 at HB6 HO6 hHeld ⊢
        generalize w5.heap.size = eb at HO6 ⊢
        refine wpAnyL_ready (rs := [15]) (by kernel_rfl) (by simp) ?_
        refine AllReadyL.cons (o := ⟨some 40, _, _, _, _, _⟩) rfl (fun K hK => ?_) AllReadyL.nil
        refine step_app_ints rfl (.tmp 33) (.tmp 39) rfl wr.heap.size _ 0 [] rfl HO6.out aa args.length ac args rfl rfl (HAR.out.2.row.later HB6.out) HAR.out.1.2 HAL.out HB6.out.size ?_
        intro a7 c7 w7 hown7 hg7 hlies7
        simp only [Nat.zero_add, List.nil_append] at hown7 hlies7 ⊢
        have HB7 := Lib.hid (And.intro (HB6.out.grown hg7 HB6.out.size (fun i hi => (HO6.out.lt i hi).1)) hown7)
        clear hown7 hg7 hlies7
        have hHeld2 := HKP.out _ HB7.out.1
        refine hK.out _ _ (fun _ => hHeld2) ?_
        clear hK K hHeld
        have hHeld := hHeld2
        clear hHeld2
        (try simp only [Act.put, List.setIfInBounds_toArray, List.set_cons_zero, List.set_cons_succ])
        refine wpAnyL_take 17 (i := 16) (oi := ⟨some 41, _, _, _, _, _⟩) (v := ?_) rfl (by kernel_rfl) (by kernel_rfl) (by kernel_rfl) (by kernel_rfl) (fun _ _ _ h => h) (Or.inl ⟨by rfl, ?_⟩) hHeld ?_
        rotate_left
        · (intro w hSw; (try dsimp only at hSw); go_simp; all_goals (try with_reducible rfl))
        (try simp only [Act.put, List.setIfInBounds_toArray, List.set_cons_zero, List.set_cons_succ])
        refine wpAnyL_ready (rs := [17]) (by kernel_rfl) (by simp) ?_
        refine AllReadyL.cons (o := ⟨some 42, _, _, _, _, _⟩) rfl (fun K hK => ?_) AllReadyL.nil
        go_simp
        have HB8 := Lib.hid (show Below wr.heap.size wr (w7.alloc (.cells #[.int .i64 tv, .slice a7 args.length c7] 78)) ∧ PhiK (fun k => wr.heap.size ≤ k ∧ k < w7.heap.size) (w7.alloc (.cells #[.int .i64 tv, .slice a7 args.length c7] 78)) [.int .i64 tv, .slice a7 args.length c7] (PhiD.mk tv args) ∧ (w7.alloc (.cells #[.int .i64 tv, .slice a7 args.length c7] 78)).heap.size = w7.heap.size + 1 ∧ RowAt (w7.alloc (.cells #[.int .i64 tv, .slice a7 args.length c7] 78)) (some ⟨w7.heap.size, 0, none⟩) [.int .i64 tv, .slice a7 args.length c7] from by
          have hba : Below w7.heap.size w7 (w7.alloc (.cells #[.int .i64 tv, .slice a7 args.length c7] 78)) := (Below.refl _ _).alloc (Nat.le_refl _) _
          exact ⟨HB7.out.1.trans (hba.mono HB7.out.1.size), phiK_sets.below hba ⟨a7, c7, rfl, own_lower HB7.out.2 (fun k _ => Nat.zero_le _), fun k hk => HB7.out.2.lt k hk, rfl⟩, World.size_alloc _ _, .inr ⟨_, _, rfl, fun i v hv => by (rw [cell_of_row _ _ (0 + i) _ _ _ (heap_alloc_new w7 _)]); simpa using hv⟩⟩)
        have hHeld2 := HKP.out _ HB8.out.1
        refine hK.out _ _ (fun _ => hHeld2) ?_
        clear hK K hHeld
        have hHeld := hHeld2
        clear hHeld2
        (try simp only [Act.put, List.setIfInBounds_toArray, List.set_cons_zero, List.set_cons_succ])
        generalize w7.alloc (.cells #[.int .i64 tv, .slice a7 args.length c7] 78) = w8 at HB8 hHeld ⊢
        generalize hz7 : w7.heap.size = z7 at HB8 ⊢
        have HZ7 := Lib.hid (show wr.heap.size ≤ z7 from by rw [← hz7]; exact HB7.out.1.size)
        clear hz7
        obtain ⟨cells, G, hrows⟩ := (HSEP.out.here phiK_sets).below phiK_sets HB8.out.1
        have HRW := Lib.hid hrows
        clear hrows
        refine wpAnyL_ready (rs := [18]) (by kernel_rfl) (by simp) ?_
        refine AllReadyL.cons (o := ⟨some 43, _, _, _, _, _⟩) rfl (fun K hK => ?_) AllReadyL.nil
        refine step_app_phi rfl (.tmp 26) (.tmp 42) rfl 0 _ j _ rfl HRW.out.own _ 1 [.int .i64 tv, .slice a7 args.length c7] rfl HB8.out.2.2.2 rfl (by intro u hu; (simp only [List.mem_cons, List.not_mem_nil, or_false] at hu); rcases hu with rfl | rfl <;> rfl) (by have := HJ.out; omega) (Nat.zero_le _) ?_
        intro a9 c9 w9 hown9 hg9 hlies9
        have HP9 := Lib.hid (show SepK 2 78 PhiK (fun k => k = ab ∨ wc.heap.size ≤ k) w9 a9 (j + 1) c9 (x.phis.take j ++ [(PhiD.mk tv args)]) ∧ Turned (fun k => k = ab ∨ wc.heap.size ≤ k) wr w9 from ⟨HRW.out.push phiK_sets HB8.out.2.1 hown9 hg9 hlies9 (fun k hk => by have := HB8.out.2.2.1; have := HZ7.out; have := HLO.out; refine ⟨by show _ ∨ _; omega, by omega, fun h => by have := h.2; omega⟩) (fun k hk => by have := HB8.out.1.size; exact ⟨hk.1, by omega⟩) (by have := HB8.out.1.size; have := HLO.out; show _ ∨ _; omega), (turned_of_below HB8.out.1 (fun k h1 h2 => by omega)).trans (turned_of_grown hg9 (fun k hk => (HRW.out.row k hk).1))⟩)
        have HC9 := Lib.hid (HCB.out.turn HP9.out.2 (fun k _ hk => by have := HLO.out; rcases hk with hk | hk <;> exact ⟨by omega, by omega⟩))
        clear hown9 hg9 hlies9
        have hHeld2 := (show (fun W => W.cell? ⟨db, 0, none⟩ = some (.slice oa j oc) ∧ W.cell? ⟨pb, 0, none⟩ = some (.slice (some ⟨b, off, none⟩) x.phis.length phis_c) ∧ W.cell? ⟨b, off + j * 2, none⟩ = some (.int .i64 tv) ∧ W.cell? ⟨b, off + j * 2 + 1, none⟩ = some (.slice aa args.length ac)) w9 from ⟨cell_of_row _ _ 0 _ _ _ HC9.out.row, cell_of_row _ _ 0 _ _ _ ((HC9.out.below.block pb HPL.out.1).trans HR1.out.2.1), cell_later (HR1.out.1.trans (HC9.out.below.mono HR1.out.1.size)) HCC.out.1, cell_later (HR1.out.1.trans (HC9.out.below.mono HR1.out.1.size)) HCC.out.2⟩)
        refine hK.out _ _ (fun _ => hHeld2) ?_
        clear hK K hHeld
        have hHeld := hHeld2
        clear hHeld2
        (try simp only [Act.put, List.setIfInBounds_toArray, List.set_cons_zero, List.set_cons_succ])
        refine wpAnyL_take 20 (i := 19) (oi := ⟨some 44, _, _, _, _, _⟩) (v := ?_) rfl (by kernel_rfl) (by kernel_rfl) (by kernel_rfl) (by kernel_rfl) (fun _ _ _ h => h) (Or.inl ⟨by rfl, ?_⟩) hHeld ?_
        rotate_left
        · (intro w hSw; (try dsimp only at hSw); go_simp; all_goals (try with_reducible rfl))
        (try simp only [Act.put, List.setIfInBounds_toArray, List.set_cons_zero, List.set_cons_succ])
        refine wpAnyL_ready (rs := [20]) (by kernel_rfl) (by simp) ?_
        refine AllReadyL.cons (o := ⟨none, _, _, _, _, _⟩) rfl (fun K hK => ?_) AllReadyL.nil
        have y0 := frozen_of_row _ _ 0 _ _ HC9.out.row
        have r0 := cell_of_row _ _ 0 _ _ _ HC9.out.row
        simp only [List.getElem?_toArray, List.getElem?_cons_zero] at r0
        go_simp
        clear y0 r0
        refine hK.out _ _ (lastL (by kernel_rfl)) ?_
        clear hK K hHeld
        (try simp only [Act.put, List.setIfInBounds_toArray, List.set_cons_zero, List.set_cons_succ])
        refine wpAnyL_done (by kernel_rfl) ?_ _
        have HFIN := Lib.hid (show CbFin W1 a9 (j + 1) c9 (some ⟨bb, 0, none⟩) 0 0 x.jump x.jon na x.nx.length nc db (w9.setCell ⟨db, 0, none⟩ (.slice a9 (j + 1) c9)) ∧ SepK 2 78 PhiK (fun k => k = ab ∨ wc.heap.size ≤ k) (w9.setCell ⟨db, 0, none⟩ (.slice a9 (j + 1) c9)) a9 (j + 1) c9 (x.phis.take (j + 1)) ∧ SepK 4 83 InsK (fun k => k = bb) (w9.setCell ⟨db, 0, none⟩ (.slice a9 (j + 1) c9)) (some ⟨bb, 0, none⟩) 0 0 [] ∧ IntsK (fun k => W1.heap.size ≤ k ∧ k < wc.heap.size ∧ k ≠ ab ∧ k ≠ bb ∧ k ≠ db) (w9.setCell ⟨db, 0, none⟩ (.slice a9 (j + 1) c9)) na x.nx.length nc x.nx ∧ wc.heap.size ≤ (w9.setCell ⟨db, 0, none⟩ (.slice a9 (j + 1) c9)).heap.size from by
          have hts := turned_store w9 db 0 (.slice a9 (j + 1) c9)
          have hl := HLO.out
          refine ⟨HC9.out.put0, ?_, ?_, ?_, ?_⟩
          · rw [take_succ_of HX.out]
            exact HP9.out.1.turned phiK_sets hts (fun k _ h1 h2 => by have h2 : k = db := h2; rcases h1 with h1 | h1 <;> omega)
          · exact (HR.out.2.2.1.turned insK_sets HP9.out.2 (fun k _ h1 h2 => by have h1 : k = bb := h1; rcases h2 with h2 | h2 <;> omega)).turned insK_sets hts (fun k _ h1 h2 => by have h1 : k = bb := h1; have h2 : k = db := h2; omega)
          · exact (HR.out.2.2.2.1.turned HP9.out.2 (fun k _ h1 h2 => by rcases h2 with h2 | h2 <;> omega)).turned hts (fun k _ h1 h2 => by have h2 : k = db := h2; omega)
          · have := HP9.out.2.size; rw [World.size_setCell]; omega)
        go_wp2
        go_roundg (x.phis.length - (j + 1))
        case measure => omega
        case rel => exact ⟨j + 1, _, _, by omega, by go_num, HFIN⟩
      · obtain rfl : j = x.phis.length := by omega
        clear p1 hpbr
        obtain ⟨wm, rfl⟩ : ∃ wm, wm = wr := ⟨wr, rfl⟩
        have hphis := HR.out.2.1.here phiK_sets
        rw [List.take_length] at hphis
        have HPH := Lib.hid hphis
        clear hphis hbw
        go_wp2_with fail
        clear p0
        go_loopg [5] x.ins.length (fun G i wr => ∃ (j : Nat) (ia : Option Addr) (ic : Nat), j + G = x.ins.length ∧ i = .int .i64 j ∧ Hid (CbFin W1 oa x.phis.length oc ia j ic x.jump x.jon na x.nx.length nc db wr ∧ SepK 2 78 PhiK (fun k => (k = ab ∨ wc.heap.size ≤ k) ∧ k < wm.heap.size) wr oa x.phis.length oc x.phis ∧ SepK 4 83 InsK (fun k => k = bb ∨ wm.heap.size ≤ k) wr ia j ic (x.ins.take j) ∧ IntsK (fun k => W1.heap.size ≤ k ∧ k < wc.heap.size ∧ k ≠ ab ∧ k ≠ bb ∧ k ≠ db) wr na x.nx.length nc x.nx ∧ wm.heap.size ≤ wr.heap.size))
        case atStart => exact ⟨0, some ⟨bb, 0, none⟩, 0, by omega, rfl, Lib.hid ⟨HR.out.1, HPH.out, by simpa using HR.out.2.2.1.mono (fun k h => .inl h), HR.out.2.2.2.1, Nat.le_refl _⟩⟩
        case round =>
          obtain ⟨j, ja, jc, hj, rfl, HQ⟩ := hrel
          have hpbr := (HQ.out.1.below.block pb HPL.out.1).trans HR1.out.2.1
          have p1 := cell_of_row _ _ 1 _ _ _ hpbr
          simp only [List.getElem?_toArray, List.getElem?_cons_zero, List.getElem?_cons_succ] at p1
          have hbw : Below w.heap.size w wr := HR1.out.1.trans (HQ.out.1.below.mono HR1.out.1.size)
          by_cases hlt : j < x.ins.length
          · have hlti : (j : Int) < (x.ins.length : Int) := by omega
            have hj0 : (0 : Int) ≤ (j : Int) := by omega
            obtain ⟨b, off, ov, tv, args, nv, aa, ac, rfl, hx, c0, c1, c2, c3, aa', ac', he, ham, har⟩ := ins_place HIR.out.2 hlt
            simp only [List.cons.injEq, Value.slice.injEq, and_true, true_and] at he
            obtain ⟨rfl, rfl⟩ := he
            have z0 := cell_later hbw c0
            have z1 := cell_later hbw c1
            have z2 := cell_later hbw c2
            have z3 := cell_later hbw c3
            have hba : Below wr.heap.size wr (wr.alloc (.cells #[.int .i64 ov, .int .i64 tv, .slice aa args.length ac, .int .i64 nv] 83)) := (Below.refl _ _).alloc (Nat.le_refl _) _
            have HAR0 := Lib.hid (And.intro ham (har.later (hbw.trans (hba.mono hbw.size))))
            have HX := Lib.hid hx
            have HAL := Lib.hid (show 0 + args.length ≤ 4398046511104 from by
              have h1 := szS_mem (sz := szInsD) (List.mem_of_getElem? hx)
              have h2 := HS.out
              unfold szInsD at h1
              simp only at h1
              unfold szInsD at h2
              omega)
            have HJ := Lib.hid (show j + 1 ≤ 1099511627776 from by omega)
            have HW0 := Lib.hid (show CbFin W1 oa x.phis.length oc ja j jc x.jump x.jon na x.nx.length nc db (wr.alloc (.cells #[.int .i64 ov, .int .i64 tv, .slice aa args.length ac, .int .i64 nv] 83)) ∧ SepK 2 78 PhiK (fun k => (k = ab ∨ wc.heap.size ≤ k) ∧ k < wm.heap.size) (wr.alloc (.cells #[.int .i64 ov, .int .i64 tv, .slice aa args.length ac, .int .i64 nv] 83)) oa x.phis.length oc x.phis ∧ SepK 4 83 InsK (fun k => (k = bb ∨ wm.heap.size ≤ k) ∧ k < wr.heap.size) (wr.alloc (.cells #[.int .i64 ov, .int .i64 tv, .slice aa args.length ac, .int .i64 nv] 83)) ja j jc (x.ins.take j) ∧ IntsK (fun k => W1.heap.size ≤ k ∧ k < wc.heap.size ∧ k ≠ ab ∧ k ≠ bb ∧ k ≠ db) (wr.alloc (.cells #[.int .i64 ov, .int .i64 tv, .slice aa args.length ac, .int .i64 nv] 83)) na x.nx.length nc x.nx ∧ (wr.alloc (.cells #[.int .i64 ov, .int .i64 tv, .slice aa args.length ac, .int .i64 nv] 83)).heap[wr.heap.size]? = some (.cells #[.int .i64 ov, .int .i64 tv, .slice aa args.length ac, .int .i64 nv] 83 (0, 0)) ∧ (wm.heap.size ≤ wr.heap.size ∧ wr.heap.size < (wr.alloc (.cells #[.int .i64 ov, .int .i64 tv, .slice aa args.length ac, .int .i64 nv] 83)).heap.size) from
              ⟨HQ.out.1.turn (T := fun _ => False) (turned_of_below hba (fun k h1 h2 => by omega)) (fun k _ h => h.elim), HQ.out.2.1.below phiK_sets hba, (HQ.out.2.2.1.here insK_sets).below insK_sets hba, HQ.out.2.2.2.1.turned (T := fun _ => False) (turned_of_below hba (fun k h1 h2 => by omega)) (fun _ _ _ h => h), heap_alloc_new wr _, HQ.out.2.2.2.2, by rw [World.size_alloc]; omega⟩)
            clear hx ham har c0 c1 c2 c3 hpbr hba
            go_upto_region 10 with fail
            clear z0 z1 z2 z3 p1
            obtain ⟨xb, hxb⟩ : ∃ n, n = wr.heap.size := ⟨_, rfl⟩
            generalize wr.alloc (.cells #[.int .i64 ov, .int .i64 tv, .slice aa args.length ac, .int .i64 nv] 83) = wq at HAR0 HW0 ⊢
            rw [← hxb] at HW0 ⊢
            clear hxb
            have HAR := HAR0
            have HSEP := Lib.hid HW0.out.2.2.1
            have HCB := Lib.hid HW0.out.1
            have HLO := Lib.hid (And.intro HW0.out.2.2.2.2.2 (And.intro HR.out.2.2.2.2 HLT.out))
            have HB5 := Lib.hid ((Below.refl wq.heap.size wq).drew)
            have HKP := Lib.hid (show ∀ W, Below wq.heap.size wq W → (W.cell? ⟨db, 1, none⟩ = some (.slice ja j jc) ∧ W.cell? ⟨xb, 0, none⟩ = some (.int .i64 ov) ∧ W.cell? ⟨xb, 1, none⟩ = some (.int .i64 tv) ∧ W.cell? ⟨xb, 2, none⟩ = some (.slice aa args.length ac) ∧ W.cell? ⟨xb, 3, none⟩ = some (.int .i64 nv)) from fun W hW => by
              have h := (hW.block xb HW0.out.2.2.2.2.2.2).trans HW0.out.2.2.2.2.1
              exact ⟨cell_later hW (cell_of_row _ _ 1 _ _ _ HW0.out.1.row), cell_of_row _ _ 0 _ _ _ h, cell_of_row _ _ 1 _ _ _ h, cell_of_row _ _ 2 _ _ _ h, cell_of_row _ _ 3 _ _ _ h⟩)
            refine wp_region_L (S := (fun W => W.cell? ⟨db, 1, none⟩ = some (.slice ja j jc) ∧ W.cell? ⟨xb, 0, none⟩ = some (.int .i64 ov) ∧ W.cell? ⟨xb, 1, none⟩ = some (.int .i64 tv) ∧ W.cell? ⟨xb, 2, none⟩ = some (.slice aa args.length ac) ∧ W.cell? ⟨xb, 3, none⟩ = some (.int .i64 nv))) (by kernel_rfl) ?_
            have hHeld := HKP.out _ ((Below.refl wq.heap.size wq).drew)
            generalize wq.drew = w5 at HB5 hHeld ⊢
            refine wpAnyL_take 1 (i := 0) (oi := ⟨some 57, _, _, _, _, _⟩) (v := ?_) rfl (by kernel_rfl) (by kernel_rfl) (by kernel_rfl) (by kernel_rfl) (fun _ _ _ h => h) (Or.inl ⟨by rfl, ?_⟩) hHeld ?_
            rotate_left
            · (intro w hSw; (try dsimp only at hSw); go_simp; all_goals (try with_reducible rfl))
            (try simp only [Act.put, List.setIfInBounds_toArray, List.set_cons_zero, List.set_cons_succ])
            refine wpAnyL_take 14 (i := 1) (oi := ⟨some 58, _, _, _, _, _⟩) (v := ?_) rfl (by kernel_rfl) (by kernel_rfl) (by kernel_rfl) (by kernel_rfl) (fun _ _ _ h => h) (Or.inl ⟨by rfl, ?_⟩) hHeld ?_
            rotate_left
            · (intro w hSw; (try dsimp only at hSw); go_simp; all_goals (try with_reducible rfl))
            (try simp only [Act.put, List.setIfInBounds_toArray, List.set_cons_zero, List.set_cons_succ])
            refine wpAnyL_take 3 (i := 2) (oi := ⟨some 59, _, _, _, _, _⟩) (v := ?_) rfl (by kernel_rfl) (by kernel_rfl) (by kernel_rfl) (by kernel_rfl) (fun _ _ _ h => h) (Or.inl ⟨by rfl, ?_⟩) hHeld ?_
            rotate_left
            · (intro w hSw; (try dsimp only at hSw); go_simp; all_goals (try with_reducible rfl))
            (try simp only [Act.put, List.setIfInBounds_toArray, List.set_cons_zero, List.set_cons_succ])
            refine wpAnyL_take 12 (i := 3) (oi := ⟨some 60, _, _, _, _, _⟩) (v := ?_) rfl (by kernel_rfl) (by kernel_rfl) (by kernel_rfl) (by kernel_rfl) (fun _ _ _ h => h) (Or.inl ⟨by rfl, ?_⟩) hHeld ?_
            rotate_left
            · (intro w hSw; (try dsimp only at hSw); go_simp; all_goals (try with_reducible rfl))
            (try simp only [Act.put, List.setIfInBounds_toArray, List.set_cons_zero, List.set_cons_succ])
            refine wpAnyL_take 5 (i := 4) (oi := ⟨some 61, _, _, _, _, _⟩) (v := ?_) rfl (by kernel_rfl) (by kernel_rfl) (by kernel_rfl) (by kernel_rfl) (fun _ _ _ h => h) (Or.inl ⟨by rfl, ?_⟩) hHeld ?_
            rotate_left
            · (intro w hSw; (try dsimp only at hSw); go_simp; all_goals (try with_reducible rfl))
            (try simp only [Act.put, List.setIfInBounds_toArray, List.set_cons_zero, List.set_cons_succ])
            refine wpAnyL_take 12 (i := 5) (oi := ⟨some 62, _, _, _, _, _⟩) (v := ?_) rfl (by kernel_rfl) (by kernel_rfl) (by kernel_rfl) (by kernel_rfl) (fun _ _ _ h => h) (Or.inl ⟨by rfl, ?_⟩) hHeld ?_
            rotate_left
            · (intro w hSw; (try dsimp only at hSw); go_simp; all_goals (try with_reducible rfl))
            (try simp only [Act.put, List.setIfInBounds_toArray, List.set_cons_zero, List.set_cons_succ])
            refine wpAnyL_take 8 (i := 7) (oi := ⟨some 64, _, _, _, _, _⟩) (v := ?_) rfl (by kernel_rfl) (by kernel_rfl) (by kernel_rfl) (by kernel_rfl) (fun _ _ _ h => h) (Or.inl ⟨by rfl, ?_⟩) hHeld ?_
            rotate_left
            · (intro w hSw; (try dsimp only at hSw); go_simp; all_goals (try with_reducible rfl))
            (try simp only [Act.put, List.setIfInBounds_toArray, List.set_cons_zero, List.set_cons_succ])
            refine wpAnyL_take 9 (i := 8) (oi := ⟨some 65, _, _, _, _, _⟩) (v := ?_) rfl (by kernel_rfl) (by kernel_rfl) (by kernel_rfl) (by kernel_rfl) (fun _ _ _ h => h) (Or.inl ⟨by rfl, ?_⟩) hHeld ?_
            rotate_left
            · (intro w hSw; (try dsimp only at hSw); go_simp; all_goals (try with_reducible rfl))
            (try simp only [Act.put, List.setIfInBounds_toArray, List.set_cons_zero, List.set_cons_succ])
            refine wpAnyL_take 11 (i := 10) (oi := ⟨some 67, _, _, _, _, _⟩) (v := ?_) rfl (by kernel_rfl) (by kernel_rfl) (by kernel_rfl) (by kernel_rfl) (fun _ _ _ h => h) (Or.inl ⟨by rfl, ?_⟩) hHeld ?_
            rotate_left
            · (intro w hSw; (try dsimp only at hSw); go_simp; all_goals (try with_reducible rfl))
            (try simp only [Act.put, List.setIfInBounds_toArray, List.set_cons_zero, List.set_cons_succ])
            refine wpAnyL_take 12 (i := 11) (oi := ⟨some 68, _, _, _, _, _⟩) (v := ?_) rfl (by kernel_rfl) (by kernel_rfl) (by kernel_rfl) (by kernel_rfl) (fun _ _ _ h => h) (Or.inl ⟨by rfl, ?_⟩) hHeld ?_
            rotate_left
            · (intro w hSw; (try dsimp only at hSw); go_simp; all_goals (try with_reducible rfl))
            (try simp only [Act.put, List.setIfInBounds_toArray, List.set_cons_zero, List.set_cons_succ])
            refine wpAnyL_ready (rs := [6]) (by kernel_rfl) (by simp) ?_
            refine AllReadyL.cons (o := ⟨some 63, _, _, _, _, _⟩) rfl (fun K hK => ?_) AllReadyL.nil
            go_simp
            have HB6 := Lib.hid (HB5.out.trans (((Below.refl w5.heap.size w5).alloc (Nat.le_refl _) (.cells #[] 3)).mono HB5.out.size))
            have HO6 := Lib.hid (own_empty w5 wq.heap.size 3 1 HB5.out.size)
            have hHeld2 := HKP.out _ HB6.out
            refine hK.out _ _ (fun _ => hHeld2) ?_
            clear hK K hHeld
            have hHeld := hHeld2
            clear hHeld2
            (try simp only [Act.put, List.setIfInBounds_toArray, List.set_cons_zero, List.set_cons_succ])
            generalize w5.alloc (.cells #[] 3) = w6 at HB6 HO6 hHeld ⊢
            generalize w5.heap.size = eb at HO6 ⊢
            refine wpAnyL_ready (rs := [9]) (by kernel_rfl) (by simp) ?_
            refine AllReadyL.cons (o := ⟨some 66, _, _, _, _, _⟩) rfl (fun K hK => ?_) AllReadyL.nil
            refine step_app_ints rfl (.tmp 63) (.tmp 65) rfl wq.heap.size _ 0 [] rfl HO6.out aa args.length ac args rfl rfl (HAR.out.2.row.later HB6.out) HAR.out.1.2 HAL.out HB6.out.size ?_
            intro a7 c7 w7 hown7 hg7 hlies7
            simp only [Nat.zero_add, List.nil_append] at hown7 hlies7 ⊢
            have HB7 := Lib.hid (And.intro (HB6.out.grown hg7 HB6.out.size (fun i hi => (HO6.out.lt i hi).1)) hown7)
            clear hown7 hg7 hlies7
            have hHeld2 := HKP.out _ HB7.out.1
            refine hK.out _ _ (fun _ => hHeld2) ?_
            clear hK K hHeld
            have hHeld := hHeld2
            clear hHeld2
            (try simp only [Act.put, List.setIfInBounds_toArray, List.set_cons_zero, List.set_cons_succ])
            refine wpAnyL_take 13 (i := 12) (oi := ⟨some 69, _, _, _, _, _⟩) (v := ?_) rfl (by kernel_rfl) (by kernel_rfl) (by kernel_rfl) (by kernel_rfl) (fun _ _ _ h => h) (Or.inl ⟨by rfl, ?_⟩) hHeld ?_
            rotate_left
            · (intro w hSw; (try dsimp only at hSw); go_simp; all_goals (try with_reducible rfl))
            (try simp only [Act.put, List.setIfInBounds_toArray, List.set_cons_zero, List.set_cons_succ])
            refine wpAnyL_ready (rs := [13]) (by kernel_rfl) (by simp) ?_
            refine AllReadyL.cons (o := ⟨some 70, _, _, _, _, _⟩) rfl (fun K hK => ?_) AllReadyL.nil
            go_simp
            have HB8 := Lib.hid (show Below wq.heap.size wq (w7.alloc (.cells #[.int .i64 ov, .int .i64 tv, .slice a7 args.length c7, .int .i64 nv] 83)) ∧ InsK (fun k => wq.heap.size ≤ k ∧ k < w7.heap.size) (w7.alloc (.cells #[.int .i64 ov, .int .i64 tv, .slice a7 args.length c7, .int .i64 nv] 83)) [.int .i64 ov, .int .i64 tv, .slice a7 args.length c7, .int .i64 nv] (InsD.mk ov tv args nv) ∧ (w7.alloc (.cells #[.int .i64 ov, .int .i64 tv, .slice a7 args.length c7, .int .i64 nv] 83)).heap.size = w7.heap.size + 1 ∧ RowAt (w7.alloc (.cells #[.int .i64 ov, .int .i64 tv, .slice a7 args.length c7, .int .i64 nv] 83)) (some ⟨w7.heap.size, 0, none⟩) [.int .i64 ov, .int .i64 tv, .slice a7 args.length c7, .int .i64 nv] from by
              have hba : Below w7.heap.size w7 (w7.alloc (.cells #[.int .i64 ov, .int .i64 tv, .slice a7 args.length c7, .int .i64 nv] 83)) := (Below.refl _ _).alloc (Nat.le_refl _) _
              exact ⟨HB7.out.1.trans (hba.mono HB7.out.1.size), insK_sets.below hba ⟨a7, c7, rfl, own_lower HB7.out.2 (fun k _ => Nat.zero_le _), fun k hk => HB7.out.2.lt k hk, rfl⟩, World.size_alloc _ _, .inr ⟨_, _, rfl, fun i v hv => by (rw [cell_of_row _ _ (0 + i) _ _ _ (heap_alloc_new w7 _)]); simpa using hv⟩⟩)
            have hHeld2 := HKP.out _ HB8.out.1
            refine hK.out _ _ (fun _ => hHeld2) ?_
            clear hK K hHeld
            have hHeld := hHeld2
            clear hHeld2
            (try simp only [Act.put, List.setIfInBounds_toArray, List.set_cons_zero, List.set_cons_succ])
            generalize w7.alloc (.cells #[.int .i64 ov, .int .i64 tv, .slice a7 args.length c7, .int .i64 nv] 83) = w8 at HB8 hHeld ⊢
            generalize hz7 : w7.heap.size = z7 at HB8 ⊢
            have HZ7 := Lib.hid (show wq.heap.size ≤ z7 from by rw [← hz7]; exact HB7.out.1.size)
            clear hz7
            obtain ⟨cells, G, hrows⟩ := (HSEP.out.here insK_sets).below insK_sets HB8.out.1
            have HRW := Lib.hid hrows
            clear hrows
            refine wpAnyL_ready (rs := [14]) (by kernel_rfl) (by simp) ?_
            refine AllReadyL.cons (o := ⟨some 71, _, _, _, _, _⟩) rfl (fun K hK => ?_) AllReadyL.nil
            refine step_app_ins rfl (.tmp 58) (.tmp 70) rfl 0 _ j _ rfl HRW.out.own _ 1 [.int .i64 ov, .int .i64 tv, .slice a7 args.length c7, .int .i64 nv] rfl HB8.out.2.2.2 rfl (by intro u hu; (simp only [List.mem_cons, List.not_mem_nil, or_false] at hu); rcases hu with rfl | rfl | rfl | rfl <;> rfl) (by have := HJ.out; omega) (Nat.zero_le _) ?_
            intro a9 c9 w9 hown9 hg9 hlies9
            have HP9 := Lib.hid (show SepK 4 83 InsK (fun k => (k = bb ∨ wm.heap.size ≤ k) ∧ k ≠ xb) w9 a9 (j + 1) c9 (x.ins.take j ++ [(InsD.mk ov tv args nv)]) ∧ Turned (fun k => (k = bb ∨ wm.heap.size ≤ k) ∧ k ≠ xb) wq w9 from ⟨HRW.out.push insK_sets HB8.out.2.1 hown9 hg9 hlies9 (fun k hk => by have := HB8.out.2.2.1; have := HZ7.out; have := HLO.out; refine ⟨by show (_ ∨ _) ∧ _; omega, by omega, fun h => by have := h.2; omega⟩) (fun k hk => by have := HB8.out.1.size; exact ⟨⟨hk.1.1, by have := hk.1.2; omega⟩, by omega⟩) (by have := HB8.out.1.size; have := HLO.out; show (_ ∨ _) ∧ _; omega), (turned_of_below HB8.out.1 (fun k h1 h2 => by omega)).trans (turned_of_grown hg9 (fun k hk => ⟨(HRW.out.row k hk).1.1, by have := (HRW.out.row k hk).1.2; omega⟩))⟩)
            have HC9 := Lib.hid (HCB.out.turn HP9.out.2 (fun k _ hk => by have := HLO.out; rcases hk with ⟨hk | hk, _⟩ <;> exact ⟨by omega, by omega⟩))
            clear hown9 hg9 hlies9
            have hHeld2 := (show (fun W => W.cell? ⟨db, 1, none⟩ = some (.slice ja j jc) ∧ W.cell? ⟨xb, 0, none⟩ = some (.int .i64 ov) ∧ W.cell? ⟨xb, 1, none⟩ = some (.int .i64 tv) ∧ W.cell? ⟨xb, 2, none⟩ = some (.slice aa args.length ac) ∧ W.cell? ⟨xb, 3, none⟩ = some (.int .i64 nv)) w9 from ⟨cell_of_row _ _ 1 _ _ _ HC9.out.row, cell_of_row _ _ 0 _ _ _ ((HP9.out.2.block xb HW0.out.2.2.2.2.2.2 (fun h => by have := HLO.out; rcases h with ⟨h | h, h3⟩ <;> omega)).trans HW0.out.2.2.2.2.1), cell_of_row _ _ 1 _ _ _ ((HP9.out.2.block xb HW0.out.2.2.2.2.2.2 (fun h => by have := HLO.out; rcases h with ⟨h | h, h3⟩ <;> omega)).trans HW0.out.2.2.2.2.1), cell_of_row _ _ 2 _ _ _ ((HP9.out.2.block xb HW0.out.2.2.2.2.2.2 (fun h => by have := HLO.out; rcases h with ⟨h | h, h3⟩ <;> omega)).trans HW0.out.2.2.2.2.1), cell_of_row _ _ 3 _ _ _ ((HP9.out.2.block xb HW0.out.2.2.2.2.2.2 (fun h => by have := HLO.out; rcases h with ⟨h | h, h3⟩ <;> omega)).trans HW0.out.2.2.2.2.1)⟩)
            refine hK.out _ _ (fun _ => hHeld2) ?_
            clear hK K hHeld
            have hHeld := hHeld2
            clear hHeld2
            (try simp only [Act.put, List.setIfInBounds_toArray, List.set_cons_zero, List.set_cons_succ])
            refine wpAnyL_take 16 (i := 15) (oi := ⟨some 72, _, _, _, _, _⟩) (v := ?_) rfl (by kernel_rfl) (by kernel_rfl) (by kernel_rfl) (by kernel_rfl) (fun _ _ _ h => h) (Or.inl ⟨by rfl, ?_⟩) hHeld ?_
            rotate_left
            · (intro w hSw; (try dsimp only at hSw); go_simp; all_goals (try with_reducible rfl))
            (try simp only [Act.put, List.setIfInBounds_toArray, List.set_cons_zero, List.set_cons_succ])
            refine wpAnyL_ready (rs := [16]) (by kernel_rfl) (by simp) ?_
            refine AllReadyL.cons (o := ⟨none, _, _, _, _, _⟩) rfl (fun K hK => ?_) AllReadyL.nil
            have y0 := frozen_of_row _ _ 1 _ _ HC9.out.row
            have r0 := cell_of_row _ _ 1 _ _ _ HC9.out.row
            simp only [List.getElem?_toArray, List.getElem?_cons_zero, List.getElem?_cons_succ] at r0
            go_simp
            clear y0 r0
            refine hK.out _ _ (lastL (by kernel_rfl)) ?_
            clear hK K hHeld
            (try simp only [Act.put, List.setIfInBounds_toArray, List.set_cons_zero, List.set_cons_succ])
            refine wpAnyL_done (by kernel_rfl) ?_ _
            have HFIN := Lib.hid (show CbFin W1 oa x.phis.length oc a9 (j + 1) c9 x.jump x.jon na x.nx.length nc db (w9.setCell ⟨db, 1, none⟩ (.slice a9 (j + 1) c9)) ∧ SepK 2 78 PhiK (fun k => (k = ab ∨ wc.heap.size ≤ k) ∧ k < wm.heap.size) (w9.setCell ⟨db, 1, none⟩ (.slice a9 (j + 1) c9)) oa x.phis.length oc x.phis ∧ SepK 4 83 InsK (fun k => k = bb ∨ wm.heap.size ≤ k) (w9.setCell ⟨db, 1, none⟩ (.slice a9 (j + 1) c9)) a9 (j + 1) c9 (x.ins.take (j + 1)) ∧ IntsK (fun k => W1.heap.size ≤ k ∧ k < wc.heap.size ∧ k ≠ ab ∧ k ≠ bb ∧ k ≠ db) (w9.setCell ⟨db, 1, none⟩ (.slice a9 (j + 1) c9)) na x.nx.length nc x.nx ∧ wm.heap.size ≤ (w9.setCell ⟨db, 1, none⟩ (.slice a9 (j + 1) c9)).heap.size from by
              have hts := turned_store w9 db 1 (.slice a9 (j + 1) c9)
              have hl := HLO.out
              refine ⟨HC9.out.put1, ?_, ?_, ?_, ?_⟩
              · exact (HW0.out.2.1.turned phiK_sets HP9.out.2 (fun k _ h1 h2 => by rcases h2 with ⟨h2 | h2, h3⟩ <;> rcases h1 with ⟨h1 | h1, h4⟩ <;> omega)).turned phiK_sets hts (fun k _ h1 h2 => by have h2 : k = db := h2; rcases h1 with ⟨h1 | h1, h4⟩ <;> omega)
              · rw [take_succ_of HX.out]
                exact (HP9.out.1.mono (fun k h => h.1)).turned insK_sets hts (fun k _ h1 h2 => by have h2 : k = db := h2; rcases h1 with h1 | h1 <;> omega)
              · exact (HW0.out.2.2.2.1.turned HP9.out.2 (fun k _ h1 h2 => by rcases h2 with ⟨h2 | h2, h3⟩ <;> omega)).turned hts (fun k _ h1 h2 => by have h2 : k = db := h2; omega)
              · have := HP9.out.2.size; rw [World.size_setCell]; omega)
            go_wp2
            go_roundg (x.ins.length - (j + 1))
            case measure => omega
            case rel => exact ⟨j + 1, _, _, by omega, by go_num, HFIN⟩
          · obtain rfl : j = x.ins.length := by omega
            have hins := HQ.out.2.2.1
            rw [List.take_length] at hins
            have HIN := Lib.hid hins
            have hrbr := (HQ.out.1.below.block rb HPL.out.2).trans HR1.out.2.2.1
            have HRB := Lib.hid hrbr
            have q0 := cell_of_row _ _ 0 _ _ _ HQ.out.1.row
            have q1 := cell_of_row _ _ 1 _ _ _ HQ.out.1.row
            have q2 := cell_of_row _ _ 2 _ _ _ HQ.out.1.row
            have q3 := cell_of_row _ _ 3 _ _ _ HQ.out.1.row
            have q4 := cell_of_row _ _ 4 _ _ _ HQ.out.1.row
            have r0 := cell_of_row _ _ 0 _ _ _ hrbr
            have r1 := cell_of_row _ _ 1 _ _ _ hrbr
            have r2 := cell_of_row _ _ 2 _ _ _ hrbr
            have r3 := cell_of_row _ _ 3 _ _ _ hrbr
            have r4 := cell_of_row _ _ 4 _ _ _ hrbr
            have y0 := frozen_of_row _ _ 0 _ _ hrbr
            have y1 := frozen_of_row _ _ 1 _ _ hrbr
            have y2 := frozen_of_row _ _ 2 _ _ hrbr
            have y3 := frozen_of_row _ _ 3 _ _ hrbr
            have y4 := frozen_of_row _ _ 4 _ _ hrbr
            simp only [List.getElem?_toArray, List.getElem?_cons_zero, List.getElem?_cons_succ] at q0 q1 q2 q3 q4 r0 r1 r2 r3 r4
            have HFIN := Lib.hid (show Below w.heap.size w (wr.setCells rb 0 [.slice oa x.phis.length oc, .slice ja x.ins.length jc, .int .i64 x.jump, .int .i64 x.jon, .slice na x.nx.length nc]) ∧ (wr.setCells rb 0 [.slice oa x.phis.length oc, .slice ja x.ins.length jc, .int .i64 x.jump, .int .i64 x.jon, .slice na x.nx.length nc]).heap[rb]? = some (.cells (List.toArray [.slice oa x.phis.length oc, .slice ja x.ins.length jc, .int .i64 x.jump, .int .i64 x.jon, .slice na x.nx.length nc]) 41 (0, 0)) ∧ BlockK (fun k => w.heap.size ≤ k) (wr.setCells rb 0 [.slice oa x.phis.length oc, .slice ja x.ins.length jc, .int .i64 x.jump, .int .i64 x.jon, .slice na x.nx.length nc]) [.slice oa x.phis.length oc, .slice ja x.ins.length jc, .int .i64 x.jump, .int .i64 x.jon, .slice na x.nx.length nc] x from by
              have ht := turned_setCells (g := rb) [.slice oa x.phis.length oc, .slice ja x.ins.length jc, .int .i64 x.jump, .int .i64 x.jon, .slice na x.nx.length nc] wr 0
              have hl := HLT.out
              have hr1 := HR1.out.2.2.2
              have hm := HR.out.2.2.2.2
              refine ⟨hbw.trans (ht.below (B := w.heap.size) hbw.size (fun k hk => by have hk : k = rb := hk; omega)), ?_, oa, oc, ja, jc, na, nc, _, _, _, rfl, HQ.out.2.1.turned phiK_sets ht (fun k _ h1 h2 => by have h2 : k = rb := h2; rcases h1 with ⟨h1 | h1, h4⟩ <;> omega), HIN.out.turned insK_sets ht (fun k _ h1 h2 => by have h2 : k = rb := h2; rcases h1 with h1 | h1 <;> omega), HQ.out.2.2.2.1.turned ht (fun k _ h1 h2 => by have h2 : k = rb := h2; omega), fun k h => ?_, fun k h => ?_, fun k h => ?_⟩
              · have := heap_setCells_mid (w := wr) (A := []) (B := [.slice none 0 0, .slice none 0 0, .int .i64 0, .int .i64 0, .slice none 0 0]) (C := []) (vs := [.slice oa x.phis.length oc, .slice ja x.ins.length jc, .int .i64 x.jump, .int .i64 x.jon, .slice na x.nx.length nc]) (o := 0) rfl (by simp) (by simpa using HRB.out)
                simpa using this
              · exact ⟨by show w.heap.size ≤ k; rcases h with ⟨h | h, h4⟩ <;> omega, fun q => by rcases h with ⟨h | h, h4⟩ <;> rcases q with q | q <;> omega, fun q => by rcases h with ⟨h | h, h4⟩ <;> omega⟩
              · exact ⟨by show w.heap.size ≤ k; rcases h with h | h <;> omega, fun q => by rcases q with ⟨q | q, h4⟩ <;> rcases h with h | h <;> omega, fun q => by rcases h with h | h <;> omega⟩
              · exact ⟨by show w.heap.size ≤ k; omega, fun q => by rcases q with ⟨q | q, h4⟩ <;> omega, fun q => by rcases q with q | q <;> omega⟩)
            clear hrbr hpbr hins
            go_wp2
            refine bodyPost_ret (results_cell_row rfl _ _ rb 41 (List.toArray [.slice oa x.phis.length oc, .slice ja x.ins.length jc, .int .i64 x.jump, .int .i64 x.jon, .slice na x.nx.length nc]) (0, 0) _ rfl ?_ Try.underlying41 rfl (by kernel_rfl)) rfl ?_
            · exact HFIN.out.2.1
            exact ⟨_, rfl, HFIN.out.2.2, HFIN.out.1⟩

end Go.Proofs.Ytajnldkempeheaa
