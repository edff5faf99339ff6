
/-
  The program's search for the blocks that are reached without going over one.
-/
import Derived.Test.YtonlidgmfmgcmaaImplG
import Derived.Deep.LoopGhost
import Derived.Deep.DeepCutAuto

namespace Go.Proofs.Ytonlidgmfmgcmaa
open Go.RowKit

/-- What is still to be done, at most: one for each unseen block, and one for each of its Next. -/
def wt : List (List Int) → List Bool → Nat
  | l :: g, b :: s => (if b then 0 else l.length + 1) + wt g s
  | _, _ => 0
theorem wt_set : ∀ {g : List (List Int)} {s : List Bool} {v : Nat} {l : List Int}, s[v]? = some false → g[v]? = some l → wt g s = wt g (s.set v true) + l.length + 1
  | [], _, _, _, _, h => by simp at h
  | _ :: _, [], _, _, h, _ => by simp at h
  | k :: g, b :: s, 0, l, h, h' => by
    simp at h h'
    subst h; subst h'
    simp [wt]; omega
  | k :: g, b :: s, v + 1, l, h, h' => by
    have := wt_set (g := g) (s := s) (v := v) (l := l) (by simpa using h) (by simpa using h')
    simp only [List.set_cons_succ, wt]
    omega
theorem wt_le : ∀ (g : List (List Int)) (s : List Bool), wt g s ≤ g.length + (g.map List.length).sum
  | [], _ => by simp [wt]
  | _ :: _, [] => by simp [wt]
  | k :: g, b :: s => by
    have := wt_le g s
    simp only [wt, List.length_cons, List.map_cons, List.sum_cons]
    split <;> omega

/-- The state of the search: what is seen is reached; what is seen has its Next seen, or to do. -/
structure Work (g : List (List Int)) (a : Int) (s : List Bool) (td : List Int) : Prop where
  len : s.length = g.length
  sound : ∀ v : Nat, s[v]? = some true → Reach g a v
  todo : ∀ x ∈ td, 0 ≤ x ∧ x < g.length ∧ (x ≠ a → Reach g a x.toNat)
  closed : ∀ (u : Nat) l, s[u]? = some true → g[u]? = some l → ∀ x ∈ l, x = a ∨ s[x.toNat]? = some true ∨ x ∈ td
  zero : a = 0 ∨ s[0]? = some true ∨ (0 : Int) ∈ td
theorem Work.start {g : List (List Int)} (hg : Fits g) (a : Int) : Work g a (List.replicate g.length false) [0] where
  len := by simp
  sound := fun v h => absurd h replicate_get
  todo := fun x hx => by
    simp at hx
    subst hx
    exact ⟨Int.le_refl _, by have := hg.pos; omega, fun h => Reach.zero (fun e => h e.symm) hg.pos⟩
  closed := fun u l h => absurd h replicate_get
  zero := .inr (.inr (by simp))
theorem Work.skip {g : List (List Int)} {a x : Int} {s : List Bool} {td : List Int} (h : Work g a s (td ++ [x])) (hx : x = a ∨ s[x.toNat]? = some true) : Work g a s td where
  len := h.len
  sound := h.sound
  todo := fun y hy => h.todo y (by simp [hy])
  closed := fun u l hu hl y hy => by
    rcases h.closed u l hu hl y hy with h1 | h1 | h1
    · exact .inl h1
    · exact .inr (.inl h1)
    · rcases List.mem_append.1 h1 with h2 | h2
      · exact .inr (.inr h2)
      · simp at h2; subst h2
        exact hx.imp_right .inl
  zero := by
    rcases h.zero with h1 | h1 | h1
    · exact .inl h1
    · exact .inr (.inl h1)
    · rcases List.mem_append.1 h1 with h2 | h2
      · exact .inr (.inr h2)
      · simp at h2; subst h2
        rcases hx with hx | hx
        · exact .inl hx.symm
        · exact .inr (.inl (by simpa using hx))
theorem Work.mark {g : List (List Int)} (hg : Fits g) {a x : Int} {s : List Bool} {td l : List Int} (h : Work g a s (td ++ [x])) (hx : x ≠ a) (hl : g[x.toNat]? = some l) : Work g a (s.set x.toNat true) (td ++ l) where
  len := by simpa using h.len
  sound := fun v hv => by
    rw [List.getElem?_set] at hv
    split at hv
    · rename_i e; subst e; exact (h.todo x (by simp)).2.2 hx
    · exact h.sound v hv
  todo := fun y hy => by
    rcases List.mem_append.1 hy with hy | hy
    · exact h.todo y (by simp [hy])
    · have h1 := hg.inn _ _ hl y hy
      refine ⟨h1.1, h1.2, fun hya => ?_⟩
      exact Reach.step ((h.todo x (by simp)).2.2 hx) hl (v := y.toNat) (by rw [Int.toNat_of_nonneg h1.1]; exact hy) (by rw [Int.toNat_of_nonneg h1.1]; exact hya) (by omega)
  closed := fun u k hu hk y hy => by
    have hm := (more_set s x.toNat).more
    rw [List.getElem?_set] at hu
    split at hu
    · rename_i e
      subst e
      rw [hl] at hk
      cases hk
      exact .inr (.inr (by simp [hy]))
    · rcases h.closed u k hu hk y hy with h1 | h1 | h1
      · exact .inl h1
      · exact .inr (.inl (hm _ h1))
      · rcases List.mem_append.1 h1 with h2 | h2
        · exact .inr (.inr (by simp [h2]))
        · simp at h2; subst h2
          refine .inr (.inl ?_)
          have hlt := h.todo y (by simp)
          rw [List.getElem?_set, if_pos rfl, if_pos (by have := h.len; omega)]
  zero := by
    have hm := (more_set s x.toNat).more
    rcases h.zero with h1 | h1 | h1
    · exact .inl h1
    · exact .inr (.inl (hm _ h1))
    · rcases List.mem_append.1 h1 with h2 | h2
      · exact .inr (.inr (by simp [h2]))
      · simp at h2; subst h2
        refine .inr (.inl ?_)
        have hlt := hg.pos
        have hsl := h.len
        simp only [Int.toNat_zero, List.getElem?_set, if_true]
        rw [if_pos (by omega)]
theorem Work.done {g : List (List Int)} {a : Int} {s : List Bool} (h : Work g a s []) : s = reachRow g a := by
  refine eq_reachRow h.len (fun v => ⟨h.sound v, fun hv => ?_⟩)
  refine reach_closed (S := fun v => s[v]? = some true) (fun ha _ => ?_) (fun u l hu _ hl x hx hxa _ => ?_) hv
  · rcases h.zero with h1 | h1 | h1
    · exact absurd h1 ha
    · exact h1
    · simp at h1
  · rcases h.closed u l hu hl x hx with h1 | h1 | h1
    · exact absurd h1 hxa
    · simpa using h1
    · simp at h1

theorem own_pop {w : World} {base g cap m : Nat} {e : TypeId} {xs : List Value} {v : Value} (h : w.ownsRow base e 1 (.slice (some ⟨g, 0, none⟩) (m + 1) cap) (m + 1) (xs ++ [v])) : w.ownsRow base e 1 (.slice (some ⟨g, 0, none⟩) m cap) m xs := by
  have hl : xs.length = m := by have := h.1; simp at this; omega
  rcases h.2 with ⟨h1, h2⟩ | ⟨g', cap', cur, hv, hb, hg, hn, hm, hc, ht⟩
  · omega
  · simp only [Value.slice.injEq, Option.some.injEq, Addr.mk.injEq, and_true, true_and] at hv
    obtain ⟨rfl, rfl⟩ := hv
    refine ⟨by omega, .inr ⟨g, cap, cur, rfl, hb, hg, by omega, hm, hc, ?_⟩⟩
    have := congrArg (List.take m) ht
    rw [List.take_take, List.take_left' hl] at this
    rw [Nat.mul_one]
    rwa [Nat.min_eq_left (by omega)] at this
theorem own_one (w : World) (base : Nat) (e : TypeId) (v : Value) (hb : base ≤ w.heap.size) : (w.alloc (.cells #[v] e)).ownsRow base e 1 (.slice (some ⟨w.heap.size, 0, none⟩) 1 1) 1 [v] :=
  ⟨rfl, .inr ⟨w.heap.size, 1, #[v], rfl, hb, heap_alloc_new w _, Nat.le_refl _, by decide, rfl, rfl⟩⟩
theorem own_some {w : World} {base m cap : Nat} {e : TypeId} {a : Option Addr} {xs : List Value} (h : w.ownsRow base e 1 (.slice a (m + 1) cap) (m + 1) xs) : ∃ g, a = some ⟨g, 0, none⟩ := by
  rcases h.2 with ⟨h1, h2⟩ | ⟨g', cap', cur, hv, _⟩
  · omega
  · simp only [Value.slice.injEq] at hv
    exact ⟨g', hv.1⟩

/-- What holds in each round. -/
structure RW (g : List (List Int)) (a : Int) (C : Array Value) (sb : Nat) (w : World) (F : Nat) (ta : Option Addr) (L tc : Nat) (s : List Bool) (td : List Int) (wr : World) : Prop where
  work : Work g a s td
  fuel : wt g s + td.length ≤ F
  small : wt g s + td.length ≤ 2097152
  list : wr.ownsRow w.heap.size 3 1 (.slice ta L tc) L (td.map (Value.int .i64))
  seen : wr.ownsRow w.heap.size 4 1 (.slice (some ⟨sb, 0, none⟩) g.length g.length) g.length (s.map Value.bool)
  cblk : wr.heap[w.heap.size]? = some (.cells C 30 (0, 0))
  below : Below w.heap.size w wr
  lt : w.heap.size < wr.heap.size

set_option maxRecDepth 100000 in
set_option maxHeartbeats 2000000 in
theorem reachedWithout_any (g : List (List Int)) (hf : Fits g) (p r : Int) (ba : Option Addr) (bc : Nat) (a : Int) (w : World) (hg : Gr w ba g) :
    Calls Try.prog 31 #[.agg #[.int .i64 p, .int .i64 r, .slice ba g.length bc], .int .i64 a] w fun e w' =>
      ∃ sb, e = .returned (.slice (some ⟨sb, 0, none⟩) g.length g.length) ∧ w'.ownsRow w.heap.size 4 1 (.slice (some ⟨sb, 0, none⟩) g.length g.length) g.length ((reachRow g a).map Value.bool) ∧ Below w.heap.size w w' := by
  obtain ⟨i0, hi, hz0, hz1, hz2⟩ := info_parts info_bool
  have hlen := hg.len
  have hsmall := hg.small
  have HI := Lib.hid (And.intro hi (And.intro hz0 (And.intro hz1 hz2)))
  clear hi hz0 hz1 hz2
  have hcl : (w.alloc (.cells #[.int .i64 p, .int .i64 r, .slice ba g.length bc] 30)).heap[w.heap.size]? = _ := heap_alloc_new w _
  have HC := Lib.hid hcl
  clear hcl
  go_enter Try.func31, Try.ntmps31
  go_wp2_with (at_make; refine wpList_make_full _ rfl _ _ 60 rfl w.heap.size 4 i0 (.bool false) 1 und_bools HI.out.1 HI.out.2.1 HI.out.2.2.1 _ _ _ _ g.length rfl rfl rfl rfl (by rw [HI.out.2.2.2]; omega) (by unfold maxLen; omega) (by simp) ?_; intro w1 hown hg1; rw [made_bools] at hown)
  have hb1 : Below w.heap.size w w1 := ((Below.refl _ _).alloc (Nat.le_refl _) _).grown hg1 (by simp) (by simp)
  have hC1 := (hg1.block w.heap.size (by simp) (by simp)).trans HC.out
  have hsz1 : w.heap.size + 1 < w1.heap.size := by
    have := (hown.lt _ rfl).2
    rw [World.size_alloc] at this
    exact this
  rw [World.size_alloc] at hown
  have hRW : RW g a #[.int .i64 p, .int .i64 r, .slice ba g.length bc] (w.heap.size + 1) w (wt g (List.replicate g.length false) + 1) (some ⟨w1.heap.size, 0, none⟩) 1 1 (List.replicate g.length false) [0] (w1.alloc (.cells #[.int .i64 0] 3)) :=
    ⟨Work.start hf a, Nat.le_refl _, by have := wt_le g (List.replicate g.length false); simp only [List.length_cons, List.length_nil]; omega, own_one _ _ _ _ (by omega), hown.alloc _, (heap_alloc_old w1 _ (by omega)).trans hC1, hb1.alloc (by omega) _, by simp; omega⟩
  have HRW := Lib.hid hRW
  clear hRW hC1 hown hb1 hg1
  go_wp2
  go_loopg [6] (wt g (List.replicate g.length false) + 1) (fun F t wr => ∃ (L : Nat) (ta : Option Addr) (tc : Nat) (s : List Bool) (td : List Int), t = .slice ta L tc ∧ Hid (RW g a #[.int .i64 p, .int .i64 r, .slice ba g.length bc] (w.heap.size + 1) w F ta L tc s td wr))
  case atStart => exact ⟨1, _, 1, _, _, rfl, HRW⟩
  case round =>
    obtain ⟨L, ta, tc, s, td, rfl, HK⟩ := hrel
    clear HRW
    by_cases hz : L = 0
    · subst hz
      go_wp2
      go_ret
      have hk := HK.out
      have htd : td = [] := by have := hk.list.1; simpa using this
      subst htd
      exact ⟨_, rfl, by rw [← hk.work.done]; exact hk.seen, hk.below⟩
    · obtain ⟨m, rfl⟩ : ∃ m, L = m + 1 := ⟨L - 1, by omega⟩
      obtain ⟨tb, rfl⟩ := own_some HK.out.list
      have hlt : td.length = m + 1 := by have := HK.out.list.1; simpa using this
      obtain ⟨td', x, rfl⟩ : ∃ td' x, td = td' ++ [x] := ⟨td.dropLast, td.getLast (by intro e; subst e; simp at hlt), (List.dropLast_concat_getLast _).symm⟩
      have hl' : td'.length = m := by simp at hlt; omega
      have hcap := (own_cap HK.out.list).1
      have hcx : wr.cell? ⟨tb, m, none⟩ = some (.int .i64 x) := by
        rw [HK.out.list.cellAt m (by omega), List.map_append, List.getElem?_append_right (by simp [hl'])]
        simp [hl']
      have hpop : wr.ownsRow w.heap.size 3 1 (.slice (some ⟨tb, 0, none⟩) m tc) m (td'.map (Value.int .i64)) := own_pop (v := .int .i64 x) (by have := HK.out.list; rwa [List.map_append] at this)
      have hxr := HK.out.work.todo x (by simp)
      obtain ⟨v, rfl⟩ : ∃ v : Nat, x = (v : Int) := ⟨x.toNat, by omega⟩
      have hvn : v < g.length := by omega
      have hsl := HK.out.work.len
      obtain ⟨sv, hsv⟩ : ∃ sv, s[v]? = some sv := ⟨_, List.getElem?_eq_getElem (by omega)⟩
      have hcs : wr.cell? ⟨w.heap.size + 1, v, none⟩ = some (.bool sv) := by rw [HK.out.seen.cellAt v (by omega), List.getElem?_map, hsv]; rfl
      have hfs := HK.out.seen.frozenAt v
      have HP := Lib.hid (And.intro hpop (And.intro hsv hl'))
      have hmb : m ≤ 2097152 := by have := HK.out.small; simp at this; omega
      clear hpop hsv hl' hxr hlt hsl hz
      by_cases hxa : (v : Int) = a
      · have heq : ((v : Int) == a) = true := by simpa using hxa
        have hk := HK.out
        have hw := hk.work.skip (.inl hxa)
        have hnext : RW g a #[.int .i64 p, .int .i64 r, .slice (ba) g.length bc] (w.heap.size + 1) w (gk - 1) (some ⟨tb, 0, none⟩) m tc s td' wr := ⟨hw, by have := hk.fuel; simp at this; omega, by have := hk.small; simp at this; omega, HP.out.1, hk.seen, hk.cblk, hk.below, hk.lt⟩
        have hgk : gk - 1 < gk := by have := hk.fuel; simp at this; omega
        have HN := Lib.hid (And.intro hnext hgk)
        clear hnext hgk hw hk hxa
        go_wp2
        go_roundg (gk - 1)
        case measure => exact HN.out.2
        case rel => exact ⟨m, _, tc, s, td', rfl, HN.out.1⟩
      · have heq : ((v : Int) == a) = false := by simpa using hxa
        cases sv with
        | true =>
          have hk := HK.out
          have hw := hk.work.skip (.inr HP.out.2.1)
          have hnext : RW g a #[.int .i64 p, .int .i64 r, .slice (ba) g.length bc] (w.heap.size + 1) w (gk - 1) (some ⟨tb, 0, none⟩) m tc s td' wr := ⟨hw, by have := hk.fuel; simp at this; omega, by have := hk.small; simp at this; omega, HP.out.1, hk.seen, hk.cblk, hk.below, hk.lt⟩
          have hgk : gk - 1 < gk := by have := hk.fuel; simp at this; omega
          have HN := Lib.hid (And.intro hnext hgk)
          clear hnext hgk hw hk hxa
          go_wp2
          go_roundg (gk - 1)
          case measure => exact HN.out.2
          case rel => exact ⟨m, _, tc, s, td', rfl, HN.out.1⟩
        | false =>
          have hk := HK.out
          obtain ⟨bb, boff, l, na, nc, rfl, hl, hc4w, hin, hnil⟩ := hg.place2 hvn
          have hc4 := cell_later hk.below hc4w
          clear hc4w
          have hll := hg.row hl
          have hmark := hk.work.mark hf hxa (l := l) (by simpa using hl)
          have hwt := wt_set HP.out.2.1 hl
          have hst := hk.seen.stored v (.bool true)
          have hk2 : wr.cell? ⟨w.heap.size, 2, none⟩ = some (.slice (some ⟨bb, boff, none⟩) g.length bc) := cell_of_row _ _ 2 _ _ _ hk.cblk
          have hfu := hk.fuel
          have hsm := hk.small
          have hPl := HP.out.2.2
          simp only [List.length_append, List.length_cons, List.length_nil] at hfu hsm
          have htyp : tb ≠ w.heap.size + 1 := fun e => own_apart HP.out.1 hk.seen (by decide) (k := w.heap.size + 1) (by simp [Value.ownBlock, e]) rfl
          have HQ := Lib.hid (And.intro hmark (And.intro hwt (And.intro hfu hsm)))
          have hpo : (wr.setCell ⟨w.heap.size + 1, v, none⟩ (.bool true)).ownsRow w.heap.size 3 1 (.slice (some ⟨tb, 0, none⟩) m tc) m (td'.map (Value.int .i64)) :=
            own_turned (S := fun k => k = w.heap.size + 1) HP.out.1 (turned_of_grown hst.2 (fun k hk => by cases hk; rfl)) (fun k hk => by simp only [Value.ownBlock, Option.some.injEq] at hk; omega)
          have hws : Below w.heap.size w (wr.setCell ⟨w.heap.size + 1, v, none⟩ (.bool true)) := hk.below.setCell (by show w.heap.size ≤ w.heap.size + 1; omega) _
          have hrow : RowAt (wr.setCell ⟨w.heap.size + 1, v, none⟩ (.bool true)) na (l.map (Value.int .i64)) := (hin.later hws).row
          have hszw := hws.size
          clear hmark hwt hfu hsm hl hxa hk
          go_wp2_with (at_builtin; refine app_ints rfl (.tmp 39) (.tmp 45) rfl w.heap.size _ m _ rfl hpo _ l.length _ l rfl rfl hrow hnil (by omega) hszw ?_; intro a5 c5 w5 hown5 hg5 hlies5)
          have hn := HQ.out
          have hk := HK.out
          have hb5 : Below w.heap.size w w5 := hws.grown hg5 hszw (fun j hj => (hpo.lt j hj).1)
          have hown6 : w5.ownsRow w.heap.size 3 1 (.slice a5 (m + l.length) c5) (m + l.length) ((td' ++ l).map (Value.int .i64)) := by rw [List.map_append]; exact hown5
          have hnext : RW g a #[.int .i64 p, .int .i64 r, .slice (some ⟨bb, boff, none⟩) g.length bc] (w.heap.size + 1) w (gk - 1) a5 (m + l.length) c5 (s.set v true) (td' ++ l) w5 := by
            refine ⟨by simpa using hn.1, ?_, ?_, hown6, ?_, ?_, hb5, ?_⟩
            · have h1 := hn.2.1; have h2 := hn.2.2.1; rw [List.length_append]; omega
            · have h1 := hn.2.1; have h2 := hn.2.2.2; rw [List.length_append]; omega
            · rw [List.map_set]
              exact own_turned (S := fun k => (Value.slice (some ⟨tb, 0, none⟩) m tc).ownBlock = some k) hst.1 (turned_of_grown hg5 (fun k hk => hk)) (fun k hk => own_apart hst.1 hpo (by decide) hk)
            · rw [hg5.block _ (by rw [World.size_setCell]; exact hk.lt) (fun e => ?_), heap_setCell_other _ _ _ _ (by show w.heap.size ≠ w.heap.size + 1; omega)]
              · exact hk.cblk
              · obtain ⟨cur, hc⟩ := own_type hpo e.symm
                rw [heap_setCell_other _ _ _ _ (by show w.heap.size ≠ w.heap.size + 1; omega), hk.cblk] at hc
                simp at hc
            · have := hg5.size; rw [World.size_setCell] at this; have := hk.lt; omega
          have hgk : gk - 1 < gk := by have := hn.2.2.1; omega
          go_roundg (gk - 1)
          case measure => exact hgk
          case rel => exact ⟨_, a5, c5, _, _, rfl, Lib.hid hnext⟩

end Go.Proofs.Ytonlidgmfmgcmaa

/-
  The program's table of what dominates what.
-/
namespace Go.Proofs.Ytonlidgmfmgcmaa
open Go.RowKit

/-- The table as it lies in memory. -/
structure DomsAt (w : World) (p r : Int) (ba : Option Addr) (bc : Nat) (g : List (List Int)) (db : Nat) (oa : Option Addr) (oc sb : Nat) : Prop where
  blk : w.heap[db]? = some (.cells #[.int .i64 p, .int .i64 r, .slice ba g.length bc, .slice oa g.length oc, .slice (some ⟨sb, 0, none⟩) g.length g.length] 65 (0, 0))
  over : BMat w oa g.length (domMat g)
  inn : BoolsRd w (some ⟨sb, 0, none⟩) g.length (reachRow g (-1))
theorem DomsAt.later {w w' : World} {p r : Int} {ba : Option Addr} {bc : Nat} {g : List (List Int)} {db : Nat} {oa : Option Addr} {oc sb : Nat} (h : DomsAt w p r ba bc g db oa oc sb) (hb : Below w.heap.size w w') : DomsAt w' p r ba bc g db oa oc sb :=
  ⟨(hb.block _ (Array.getElem?_eq_some_iff.1 h.blk).1).trans h.blk, h.over.later bRowR_lasts hb, h.inn.later hb⟩

/-- The state of the program's loop over the blocks. -/
structure DI (g : List (List Int)) (p r : Int) (ba : Option Addr) (bc db sb : Nat) (w : World) (k : Nat) (oa : Option Addr) (oc : Nat) (wr : World) : Prop where
  cblk : wr.heap[w.heap.size]? = some (.cells #[.int .i64 p, .int .i64 r, .slice ba g.length bc] 30 (0, 0))
  dblk : wr.heap[db]? = some (.cells #[.int .i64 p, .int .i64 r, .slice ba g.length bc, .slice oa k oc, .slice (some ⟨sb, 0, none⟩) g.length g.length] 65 (0, 0))
  below : Below w.heap.size w wr
  lt : w.heap.size < wr.heap.size
  dlt : w.heap.size < db
  inn : wr.ownsRow w.heap.size 4 1 (.slice (some ⟨sb, 0, none⟩) g.length g.length) g.length ((reachRow g (-1)).map Value.bool)
  out : BMatOwn wr w.heap.size oa k oc ((domMat g).take k)
theorem DI.later {g : List (List Int)} {p r : Int} {ba : Option Addr} {bc db sb : Nat} {w : World} {k : Nat} {oa : Option Addr} {oc : Nat} {wr w' : World} (h : DI g p r ba bc db sb w k oa oc wr) (hb : Below wr.heap.size wr w') : DI g p r ba bc db sb w k oa oc w' :=
  ⟨(hb.block _ h.lt).trans h.cblk, (hb.block _ (Array.getElem?_eq_some_iff.1 h.dblk).1).trans h.dblk, h.below.trans (hb.mono h.below.size), Nat.lt_of_lt_of_le h.lt hb.size, h.dlt, ownsRow_below h.inn hb, h.out.below hb⟩

/-- The table has grown by a row: an append, and a store. -/
theorem DI.snoc {g : List (List Int)} {p r : Int} {ba : Option Addr} {bc db sb : Nat} {w : World} {k : Nat} {oa : Option Addr} {oc : Nat} {wr w' : World} {a' ra : Option Addr} {c' rc : Nat} {bs : List Bool} (h : DI g p r ba bc db sb w k oa oc wr) (hb : (domMat g)[k]? = some bs)
    (vals : List Value) (hv : wr.ownsRow w.heap.size 60 1 (.slice oa k oc) k vals) (h2 : ∀ (i : Nat) v bs, vals[i]? = some v → ((domMat g).take k)[i]? = some bs → ∃ ra rc, v = .slice ra bs.length rc ∧ wr.ownsRow w.heap.size 4 1 v bs.length (bs.map Value.bool))
    (hr : wr.ownsRow w.heap.size 4 1 (.slice ra bs.length rc) bs.length (bs.map Value.bool)) (hg : wr.grownBy w' (Value.slice oa k oc).ownBlock)
    (hn : w'.ownsRow w.heap.size 60 1 (.slice a' (k + 1) c') (k + 1) (vals ++ [.slice ra bs.length rc])) :
    w'.heap[db]? = some (.cells #[.int .i64 p, .int .i64 r, .slice ba g.length bc, .slice oa k oc, .slice (some ⟨sb, 0, none⟩) g.length g.length] 65 (0, 0)) ∧ DI g p r ba bc db sb w (k + 1) a' c' (w'.setCell ⟨db, 3, none⟩ (.slice a' (k + 1) c')) := by
  have hdlt : db < wr.heap.size := (Array.getElem?_eq_some_iff.1 h.dblk).1
  have hC : w'.heap[w.heap.size]? = _ := (hg.block _ h.lt (fun e => by
    obtain ⟨cur, hc⟩ := own_type hv e.symm
    rw [h.cblk] at hc
    simp at hc)).trans h.cblk
  have hD : w'.heap[db]? = _ := (hg.block _ hdlt (fun e => by
    obtain ⟨cur, hc⟩ := own_type hv e.symm
    rw [h.dblk] at hc
    simp at hc)).trans h.dblk
  have hout : BMatOwn w' w.heap.size a' (k + 1) c' ((domMat g).take (k + 1)) := by
    rw [take_succ_of hb]
    exact h.out.snoc hr vals hv h2 hg hn rfl
  have hin : w'.ownsRow w.heap.size 4 1 (.slice (some ⟨sb, 0, none⟩) g.length g.length) g.length ((reachRow g (-1)).map Value.bool) :=
    own_turned (S := fun j => (Value.slice oa k oc).ownBlock = some j) h.inn (turned_of_grown hg (fun j hj => hj)) (fun j hj => own_apart h.inn hv (by decide) hj)
  have hts : Turned (fun j => j = db) w' (w'.setCell ⟨db, 3, none⟩ (.slice a' (k + 1) c')) := ⟨rfl, rfl, rfl, by rw [World.size_setCell]; exact Nat.le_refl _, fun j _ hj => heap_setCell_other w' _ j _ (fun e => hj e)⟩
  have hne : ∀ {e : TypeId} {v : Value} {n : Nat} {xs : List Value}, w'.ownsRow w.heap.size e 1 v n xs → e ≠ 65 → w'.heap.size = w'.heap.size → (w'.setCell ⟨db, 3, none⟩ (.slice a' (k + 1) c')).ownsRow w.heap.size e 1 v n xs := fun hx he _ =>
    own_turned hx hts (fun j hj e2 => by
      obtain ⟨cur, hc⟩ := own_type hx hj
      rw [e2, hD] at hc
      simp at hc
      exact he hc.2.symm)
  refine ⟨hD, ⟨?_, ?_, ?_, ?_, h.dlt, hne hin (by decide) rfl, ?_⟩⟩
  · rw [heap_setCell_other _ _ _ _ (by show w.heap.size ≠ db; have := h.dlt; omega)]; exact hC
  · rw [heap_setCell_same w' db 3 _ _ _ hD]; rfl
  · exact (h.below.trans ((Below.refl _ _).grown hg h.below.size (fun j hj => (hv.lt j hj).1))).setCell (by show w.heap.size ≤ db; have := h.dlt; omega) _
  · rw [World.size_setCell]; exact Nat.lt_of_lt_of_le h.lt hg.size
  · obtain ⟨hl, vals', h3, h4⟩ := hout
    exact ⟨hl, vals', hne h3 (by decide) rfl, fun i v bs h5 h6 => by obtain ⟨ra, rc, h7, h8⟩ := h4 i v bs h5 h6; exact ⟨ra, rc, h7, hne h8 (by decide) rfl⟩⟩

theorem domRow_unreached {g : List (List Int)} {k : Nat} (h : reachB g (-1) k = false) : domRow g k = List.replicate g.length false := by
  apply List.ext_getElem?
  intro v
  by_cases hv : v < g.length
  · rw [domRow_get hv, List.getElem?_replicate, if_pos hv, domB, h, Bool.false_and]
  · rw [List.getElem?_eq_none (by rw [domRow_length]; omega), List.getElem?_eq_none (by simp; omega)]

set_option maxRecDepth 100000 in
set_option maxHeartbeats 4000000 in
theorem domsOf_any (g : List (List Int)) (p r : Int) (ba : Option Addr) (bc : Nat) (w : World) (hg : Gr w ba g) :
    Calls Try.prog 19 #[.agg #[.int .i64 p, .int .i64 r, .slice ba g.length bc]] w fun e w' =>
      Below w.heap.size w w' ∧ ((fits g = false ∧ e = .returned (.pointer none)) ∨ (Fits g ∧ ∃ db oa oc sb, e = .returned (.pointer (some ⟨db, 0, none⟩)) ∧ DomsAt w' p r ba bc g db oa oc sb)) := by
  obtain ⟨i0, hi, hz0, hz1, hz2⟩ := info_parts info_bool
  have hlen := hg.len
  have HI := Lib.hid (And.intro hi (And.intro hz0 (And.intro hz1 hz2)))
  clear hi hz0 hz1 hz2
  have hb0 : Below w.heap.size w (w.alloc (.cells #[.int .i64 p, .int .i64 r, .slice ba g.length bc] 30)) := (Below.refl _ _).alloc (Nat.le_refl _) _
  have hcl : (w.alloc (.cells #[.int .i64 p, .int .i64 r, .slice ba g.length bc] 30)).heap[w.heap.size]? = some (.cells #[.int .i64 p, .int .i64 r, .slice ba g.length bc] 30 (0, 0)) := heap_alloc_new w _
  have hs0 : (w.alloc (.cells #[.int .i64 p, .int .i64 r, .slice ba g.length bc] 30)).heap.size = w.heap.size + 1 := by simp
  have HH := Lib.hid (And.intro hb0 (And.intro hcl hs0))
  clear hb0 hcl hs0
  go_enter Try.func19, Try.ntmps19
  go_wp2_with fail
  generalize w.alloc (.cells #[.int .i64 p, .int .i64 r, .slice ba g.length bc] 30) = W0 at HH ⊢
  have hg0 := hg.later HH.out.1
  refine (graphOk_any p r ba bc g W0 hg0).mono ?_
  rintro e w1 ⟨rfl, hb1⟩
  have hbw1 : Below w.heap.size w w1 := HH.out.1.trans (hb1.mono HH.out.1.size)
  have hC1 := (hb1.block w.heap.size (by have := HH.out.2.2; omega)).trans HH.out.2.1
  have hk0 : w1.cell? ⟨w.heap.size, 0, none⟩ = some (.int .i64 p) := cell_of_row _ _ 0 _ _ _ hC1
  have hk1 : w1.cell? ⟨w.heap.size, 1, none⟩ = some (.int .i64 r) := cell_of_row _ _ 1 _ _ _ hC1
  have hk2 : w1.cell? ⟨w.heap.size, 2, none⟩ = some (.slice ba g.length bc) := cell_of_row _ _ 2 _ _ _ hC1
  cases hfit : fits g with
  | false =>
    have HF := Lib.hid hfit
    clear hfit
    go_wp2
    go_ret
    exact ⟨hbw1, .inl ⟨HF.out, rfl⟩⟩
  | true =>
    have hF := fits_iff.1 hfit
    have hw1 : w.heap.size < w1.heap.size := by have := hb1.size; have := HH.out.2.2; omega
    have HR := Lib.hid (fun q : Nat => reachedWithout_any g hF p r ba bc (-1) (w1.drewN q) (hg.later (below_drewN hbw1 q)))
    have HC1 := Lib.hid hC1
    clear hfit hC1 hb1
    go_upto_region 3 with fail
    go_cut [3] (fun d wx => ∃ db sb, d = .pointer (some ⟨db, 0, none⟩) ∧ Hid (DI g p r ba bc db sb w 0 none 0 wx))
    case first =>
      go_region_law (go_simp; go_at_call 31; refine (HR.out _).mono ?_; rintro e w2 ⟨sb, rfl, hown2, hb2⟩; (have hbw2 : Below w1.heap.size w1 w2 := ⟨hb2.os, hb2.tape, hb2.output, hb2.size, hb2.block⟩); (have hk0' := cell_later hbw2 hk0); (have hk1' := cell_later hbw2 hk1); (have hk2' := cell_later hbw2 hk2))
      all_goals
        have hDI : DI g p r ba bc w2.heap.size sb w 0 none 0 (w2.alloc (.cells #[.int .i64 p, .int .i64 r, .slice ba g.length bc, .slice none 0 0, .slice (some ⟨sb, 0, none⟩) g.length g.length] 65)) := by
          have hsz := hbw2.size
          refine ⟨(heap_alloc_old w2 _ (by omega)).trans ((hbw2.block _ hw1).trans HC1.out), heap_alloc_new w2 _, (hbw1.trans (hbw2.mono (by omega))).alloc (by omega) _, by simp; omega, by omega, own_lower (hown2.alloc _) (fun j hj => ?_), BMatOwn.nil _ _⟩
          have := (hown2.lt j hj).1
          have hq : w1.heap.size ≤ j := this
          omega
        have HDI := Lib.hid hDI
        clear hDI hbw2 hb2 hown2
        go_wp2_with fail
        go_meet
        exact ⟨_, sb, rfl, HDI⟩
    case rest =>
    obtain ⟨db, sb, rfl, HDI⟩ := hcut
    have hkw2 : wc.cell? ⟨w.heap.size, 2, none⟩ = some (.slice ba g.length bc) := cell_of_row _ _ 2 _ _ _ HDI.out.cblk
    clear hk0 hk1 hk2 HR HC1
    go_wp2
    clear hkw2
    go_loopg [19] g.length (fun F i wr => ∃ k : Nat, k + F = g.length ∧ i = .int .i64 k ∧ ∃ oa oc, Hid (DI g p r ba bc db sb w k oa oc wr))
    case atStart => exact ⟨0, by omega, rfl, _, _, HDI⟩
    case round =>
        obtain ⟨k, hk, rfl, oa, oc, HK⟩ := hrel
        clear HDI
        have hkw2 : wr.cell? ⟨w.heap.size, 2, none⟩ = some (.slice ba g.length bc) := cell_of_row _ _ 2 _ _ _ HK.out.cblk
        by_cases hlt : k < g.length
        · go_upto_if 32 with (at_make; refine wpList_make_full _ rfl _ _ 60 rfl w.heap.size 4 i0 (.bool false) 1 und_bools HI.out.1 HI.out.2.1 HI.out.2.2.1 _ _ _ _ g.length rfl rfl rfl rfl (by rw [HI.out.2.2.2]; omega) (by unfold maxLen; omega) (by have := HK.out.lt; omega) ?_; intro w3 hown3 hg3; rw [made_bools] at hown3; (have hb3 : Below wr.heap.size wr w3 := (Below.refl _ _).grown hg3 (Nat.le_refl _) (by simp)); (have hk3 := HK.out.later hb3); (have hd4 : w3.cell? ⟨db, 4, none⟩ = some (.slice (some ⟨sb, 0, none⟩) g.length g.length) := cell_of_row _ _ 4 _ _ _ hk3.dblk); (have hci := hk3.inn.cellAt k (by omega)); rw [List.getElem?_map, reachRow_get hlt, Option.map_some] at hci; (have hk0 : w3.cell? ⟨w.heap.size, 0, none⟩ = some (.int .i64 p) := cell_of_row _ _ 0 _ _ _ hk3.cblk); (have hk1 : w3.cell? ⟨w.heap.size, 1, none⟩ = some (.int .i64 r) := cell_of_row _ _ 1 _ _ _ hk3.cblk); (have hk2 : w3.cell? ⟨w.heap.size, 2, none⟩ = some (.slice ba g.length bc) := cell_of_row _ _ 2 _ _ _ hk3.cblk))
          go_cut [5] (fun rw wx => ∃ rb, rw = .slice (some ⟨rb, 0, none⟩) g.length g.length ∧ Hid (DI g p r ba bc db sb w k oa oc wx ∧ wx.ownsRow w.heap.size 4 1 (.slice (some ⟨rb, 0, none⟩) g.length g.length) g.length ((domRow g k).map Value.bool)))
          case first =>
            have hrlt := (hown3.lt wr.heap.size rfl).2
            have HK3 := Lib.hid (And.intro hk3 (And.intro hown3 hb3))
            clear hk3 hown3 hg3 hb3
            cases hra : reachB g (-1) k with
            | false =>
              have HRA := Lib.hid hra
              rw [hra] at hci
              clear hra
              go_wp2_with fail
              go_meet
              exact ⟨_, rfl, Lib.hid ⟨HK3.out.1, by rw [domRow_unreached HRA.out]; exact HK3.out.2.1⟩⟩
            | true =>
              have HRA := Lib.hid hra
              rw [hra] at hci
              clear hra
              go_wp2_with fail
              refine (reachedWithout_any g hF p r ba bc k w3 (hg.later (HK3.out.1.below))).mono ?_
              rintro e w4 ⟨lb, rfl, hown4, hb4⟩
              have hk4 := HK3.out.1.later hb4
              have HK4 := Lib.hid (And.intro hk4 (And.intro hown4 (And.intro (ownsRow_below HK3.out.2.1 hb4) (HK3.out.2.2.trans (hb4.mono HK3.out.2.2.size)))))
              have hlb := (hown4.lt lb rfl).1
              have hdb : db < wr.heap.size := (Array.getElem?_eq_some_iff.1 HK.out.dblk).1
              have hsbl := (HK.out.inn.lt sb rfl).2
              clear hk4 hown4 hb4 hd4 hci hk0 hk1 hk2 hkw2
              go_wp2
              go_loopg [38] g.length (fun F j wq => ∃ m : Nat, m + F = g.length ∧ j = .int .i64 m ∧ Hid (Turned (fun x => x = wr.heap.size) w4 wq ∧ wq.ownsRow w.heap.size 4 1 (.slice (some ⟨wr.heap.size, 0, none⟩) g.length g.length) g.length (((domRow g k).take m).map Value.bool ++ List.replicate (g.length - m) (Value.bool false))))
              case atStart => exact ⟨0, by omega, rfl, Lib.hid ⟨Turned.refl _ _, by have := HK4.out.2.2.1; rw [List.map_replicate] at this; simpa using this⟩⟩
              case round =>
                obtain ⟨m, hm, rfl, HM⟩ := hrel
                by_cases hlt2 : m < g.length
                · have hdl := domRow_length g k
                  have hal := own_turned HK4.out.1.inn HM.out.1 (fun j hj hx => by simp only [Value.ownBlock, Option.some.injEq] at hj; omega)
                  have hse := own_turned HK4.out.2.1 HM.out.1 (fun j hj hx => by simp only [Value.ownBlock, Option.some.injEq] at hj; omega)
                  have hdq := (HM.out.1.block db (by have := (Array.getElem?_eq_some_iff.1 HK4.out.1.dblk).1; exact this) (fun e => by omega)).trans HK4.out.1.dblk
                  have hd4 : wr.cell? ⟨db, 4, none⟩ = some (.slice (some ⟨sb, 0, none⟩) g.length g.length) := cell_of_row _ _ 4 _ _ _ hdq
                  have hc2 := hal.cellAt m (by omega)
                  have hc3 := hse.cellAt m (by omega)
                  have hc4 := HM.out.2.cellAt m (by omega)
                  have hc5 := HM.out.2.frozenAt m
                  rw [List.getElem?_map, reachRow_get (by omega), Option.map_some] at hc2 hc3
                  rw [List.getElem?_append_right (by simp; omega)] at hc4
                  simp only [List.length_map, List.length_take, hdl, Nat.min_eq_left (Nat.le_of_lt hlt2), Nat.sub_self] at hc4
                  rw [List.getElem?_replicate, if_pos (by omega)] at hc4
                  have HX := Lib.hid (domRow_get (g := g) (a := k) hlt2)
                  unfold domB at HX
                  rw [HRA.out, Bool.true_and] at HX
                  have hst := fun v => HM.out.2.stored m (.bool v)
                  have HT := Lib.hid hst
                  clear hst hal hse hdq
                  generalize reachB g (-1) m = vb at hc2 HX
                  generalize reachB g k m = vs at hc3 HX
                  have HM1 := Lib.hid HM.out.1
                  have HS := Lib.hid (fun v (hv : (domRow g k)[m]? = some v) => (set_next_bool hv hdl) ▸ (HT.out v).1)
                  clear HM hdl
                  cases vb <;> cases vs <;> (
                    go_wp2
                    go_roundg (gk - 1)
                    case measure => omega
                    case rel => exact ⟨m + 1, by omega, by go_num, Lib.hid ⟨HM1.out.trans (turned_of_grown (HT.out _).2 (fun j hj => by cases hj; rfl)), HS.out _ HX.out⟩⟩)
                · obtain rfl : m = g.length := by omega
                  have hdl := domRow_length g k
                  have hrw := HM.out.2
                  rw [Nat.sub_self, List.replicate_zero, List.append_nil, List.take_of_length_le (by omega)] at hrw
                  have hbq := HK4.out.2.2.2.trans (HM.out.1.below HK4.out.2.2.2.size (fun j hj => by omega))
                  have HQ := Lib.hid (And.intro (HK.out.later hbq) hrw)
                  clear hrw hbq hdl HM
                  go_wp2_with fail
                  go_meet
                  exact ⟨_, rfl, HQ⟩
          case rest =>
            obtain ⟨rb, rfl, HROW⟩ := hcut
            have hdk := HROW.out.1
            have hdl := domRow_length g k
            have hd3 : wc.cell? ⟨db, 3, none⟩ = some (.slice oa k oc) := cell_of_row _ _ 3 _ _ _ hdk.dblk
            obtain ⟨_, vals, hvals, hv2⟩ := hdk.out
            have hba : Below wc.heap.size wc (wc.alloc (.cells #[.slice (some ⟨rb, 0, none⟩) g.length g.length] 60)) := (Below.refl _ _).alloc (Nat.le_refl _) _
            go_wp2_with (at_builtin; refine app_bools rfl (.tmp 63) (.tmp 65) rfl w.heap.size _ k vals rfl (hvals.alloc _) _ _ _ rfl (rowAt_one _ _ _) (by rintro ⟨⟩) rfl (by omega) (by have := hdk.below.size; simp; omega) ?_; intro a7 c7 w7 hown7 hg7; (have hsn := (hdk.later hba).snoc (domMat_get hlt) vals (hvals.alloc _) (fun i v bs h1 h3 => by obtain ⟨ra, rc, h5, h4⟩ := hv2 i v bs h1 h3; exact ⟨ra, rc, h5, h4.alloc _⟩) (ra := some ⟨rb, 0, none⟩) (rc := g.length) (by rw [hdl]; exact HROW.out.2.alloc _) hg7 (by rw [hdl]; exact hown7)); (have hd7 : w7.cell? ⟨db, 3, none⟩ = some (.slice oa k oc) := cell_of_row _ _ 3 _ _ _ hsn.1); (have hf7 := frozen_of_row w7 db 3 _ _ hsn.1))
            have HSN := Lib.hid hsn.2
            clear hsn hba hvals hv2 hdk
            go_roundg (gk - 1)
            case measure => omega
            case rel => exact ⟨k + 1, by omega, by go_num, a7, c7, HSN⟩
        · obtain rfl : k = g.length := by omega
          go_wp2
          go_ret
          have hd := HK.out
          refine ⟨hd.below, .inr ⟨hF, db, oa, oc, sb, rfl, hd.dblk, ?_, bools_of_own hd.inn⟩⟩
          have := hd.out.rd
          rwa [List.take_of_length_le (by simp [domMat])] at this

end Go.Proofs.Ytonlidgmfmgcmaa

/-
  Does a block dominate another one: the reference's answer and the program's.
-/
namespace Go.Proofs.Ytonlidgmfmgcmaa
open Go.RowKit

/-- Is b a block of a code that is a graph? -/
noncomputable def inP (g : List (List Int)) (b : Int) : Bool := fits g && okN g.length b
noncomputable def domP (g : List (List Int)) (a b : Int) : Bool := inP g a && (inP g b && domB g a.toNat b.toNat)
theorem inP_true {g : List (List Int)} {b : Int} : inP g b = true ↔ Fits g ∧ 0 ≤ b ∧ b < g.length := by
  rw [inP, Bool.and_eq_true, fits_iff, okN_iff]
theorem BMat.cell {w : World} {a : Option Addr} {g : List (List Int)} (h : BMat w a g.length (domMat g)) {x y : Nat} (hx : x < g.length) (hy : y < g.length) :
    ∃ b off rb roff rc, a = some ⟨b, off, none⟩ ∧ w.cell? ⟨b, off + x, none⟩ = some (.slice (some ⟨rb, roff, none⟩) g.length rc) ∧ w.cell? ⟨rb, roff + y, none⟩ = some (.bool (domB g x y)) := by
  obtain ⟨b, off, ra, rc, bs, rfl, hm, hc, hr⟩ := BMat.place h hx
  rw [domMat_get hx] at hm
  cases hm
  rw [domRow_length] at hc hr
  obtain ⟨rb, roff, v, rfl, hv, hc2⟩ := hr.place hy
  rw [domRow_get hy] at hv
  cases hv
  exact ⟨b, off, rb, roff, rc, rfl, hc, hc2⟩

/-- A code's value, and what lies behind it. -/
abbrev codeV (p r : Int) (ba : Option Addr) (n bc : Nat) : Value := .agg #[.int .i64 p, .int .i64 r, .slice ba n bc]

theorem below_box (w : World) (v0 v1 v2 : Value) : Below w.heap.size w (w.alloc (.cells #[v0, v1, v2] 30)) := (Below.refl _ _).alloc (Nat.le_refl _) _

/-! ### the program -/
/-- Is b a block that is reached? -/
noncomputable def hasP (g : List (List Int)) (b : Int) : Bool := okN g.length b && reachB g (-1) b.toNat
set_option maxRecDepth 100000 in
theorem has_nil (b : Int) (w : World) : Calls Try.prog 33 #[.pointer none, .int .i64 b] w fun e w' => e = .returned (.bool false) ∧ Below w.heap.size w w' := by
  go_enter Try.func33, Try.ntmps33
  go_wp2
  go_ret
  exact ⟨rfl, Below.refl _ _⟩
set_option maxRecDepth 100000 in
theorem has_any (p r : Int) (ba : Option Addr) (bc : Nat) (g : List (List Int)) (db : Nat) (oa : Option Addr) (oc sb : Nat) (b : Int) (w : World) (hD : DomsAt w p r ba bc g db oa oc sb) (hlen : g.length ≤ 1048576) :
    Calls Try.prog 33 #[.pointer (some ⟨db, 0, none⟩), .int .i64 b] w fun e w' => e = .returned (.bool (hasP g b)) ∧ Below w.heap.size w w' := by
  have hd4 : w.cell? ⟨db, 4, none⟩ = some (.slice (some ⟨sb, 0, none⟩) g.length g.length) := cell_of_row _ _ 4 _ _ _ hD.blk
  cases hok : okN g.length b with
  | false =>
    have HK := Lib.hid hok
    have d0 : (decide ((0 : Int) ≤ b) && decide (b ≤ (g.length : Int) - 1)) = false := hok
    clear hok
    go_enter Try.func33, Try.ntmps33
    go_wp2_with fail
    refine (within_any b 0 ((g.length : Int) - 1) w).mono ?_
    rw [d0]
    rintro e w1 ⟨rfl, rfl⟩
    clear d0
    go_wp2
    go_ret
    exact ⟨ret_bool (by rw [hasP, HK.out]; rfl), Below.refl _ _⟩
  | true =>
    have HK := Lib.hid hok
    have d0 : (decide ((0 : Int) ≤ b) && decide (b ≤ (g.length : Int) - 1)) = true := hok
    have hr := okN_iff.1 hok
    obtain ⟨b, rfl⟩ : ∃ n : Nat, b = (n : Int) := ⟨b.toNat, by omega⟩
    have hbn : b < g.length := by omega
    obtain ⟨b1, o1, v, hab, hv, hcb⟩ := hD.inn.place hbn
    rw [reachRow_get hbn] at hv
    cases hv
    cases hab
    rw [Nat.zero_add] at hcb
    clear hok hr
    go_enter Try.func33, Try.ntmps33
    go_wp2_with fail
    refine (within_any (b : Int) 0 ((g.length : Int) - 1) w).mono ?_
    rw [d0]
    rintro e w1 ⟨rfl, rfl⟩
    clear d0
    go_wp2
    go_ret
    exact ⟨ret_bool (by rw [hasP, HK.out]; simp), Below.refl _ _⟩

theorem domB_has {g : List (List Int)} {a b : Nat} (h : domB g a b = true) : reachB g (-1) a = true ∧ reachB g (-1) b = true := by
  simp only [domB, Bool.and_eq_true] at h
  exact ⟨h.1, h.2.1⟩
theorem domP_has {g : List (List Int)} {a b : Int} (hf : Fits g) : domP g a b = (hasP g a && (hasP g b && domB g a.toNat b.toNat)) := by
  have hft := fits_iff.2 hf
  simp only [domP, inP, hasP, hft, Bool.true_and]
  cases hd : domB g a.toNat b.toNat with
  | false => simp
  | true =>
    have := domB_has hd
    rw [this.1, this.2]
    simp

end Go.Proofs.Ytonlidgmfmgcmaa
