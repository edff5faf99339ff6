
/-
  The program's search for the blocks that are reached without going over one.
-/
import Derived.Test.YtkhnhdgbbjppeaaImplG
import Derived.Deep.LoopGhost
namespace Go.Proofs.Ytkhnhdgbbjppeaa
open Go.RowKit

/-- What is still to be done, at most: one for each unseen block, and one for each of its Next. -/
def wt : List (List Int) → List Bool → Nat
  | l :: g, b :: s => (if b then 0 else l.length + 1) + wt g s
  | _, _ => 0
theorem wt_set : ∀ {g : List (List Int)} {s : List Bool} {v : Nat} {l : List Int}, s[v]? = some false → g[v]? = some l → wt g s = wt g (s.set v true) + l.length + 1
  | [], _, _, _, _, h => by simp at h
  | _ :: _, [], _, _, h, _ => by simp at h
  | k :: g, b :: s, 0, l, h, h' => by
    simp at h h'
    subst h; subst h'
    simp [wt]; omega
  | k :: g, b :: s, v + 1, l, h, h' => by
    have := wt_set (g := g) (s := s) (v := v) (l := l) (by simpa using h) (by simpa using h')
    simp only [List.set_cons_succ, wt]
    omega
theorem wt_le : ∀ (g : List (List Int)) (s : List Bool), wt g s ≤ g.length + (g.map List.length).sum
  | [], _ => by simp [wt]
  | _ :: _, [] => by simp [wt]
  | k :: g, b :: s => by
    have := wt_le g s
    simp only [wt, List.length_cons, List.map_cons, List.sum_cons]
    split <;> omega

/-- The state of the search: what is seen is reached; what is seen has its Next seen, or to do. -/
structure Work (g : List (List Int)) (a : Int) (s : List Bool) (td : List Int) : Prop where
  len : s.length = g.length
  sound : ∀ v : Nat, s[v]? = some true → Reach g a v
  todo : ∀ x ∈ td, 0 ≤ x ∧ x < g.length ∧ (x ≠ a → Reach g a x.toNat)
  closed : ∀ (u : Nat) l, s[u]? = some true → g[u]? = some l → ∀ x ∈ l, x = a ∨ s[x.toNat]? = some true ∨ x ∈ td
  zero : a = 0 ∨ s[0]? = some true ∨ (0 : Int) ∈ td
theorem Work.start {g : List (List Int)} (hg : Fits g) (a : Int) : Work g a (List.replicate g.length false) [0] where
  len := by simp
  sound := fun v h => absurd h replicate_get
  todo := fun x hx => by
    simp at hx
    subst hx
    exact ⟨Int.le_refl _, by have := hg.pos; omega, fun h => Reach.zero (fun e => h e.symm) hg.pos⟩
  closed := fun u l h => absurd h replicate_get
  zero := .inr (.inr (by simp))
theorem Work.skip {g : List (List Int)} {a x : Int} {s : List Bool} {td : List Int} (h : Work g a s (td ++ [x])) (hx : x = a ∨ s[x.toNat]? = some true) : Work g a s td where
  len := h.len
  sound := h.sound
  todo := fun y hy => h.todo y (by simp [hy])
  closed := fun u l hu hl y hy => by
    rcases h.closed u l hu hl y hy with h1 | h1 | h1
    · exact .inl h1
    · exact .inr (.inl h1)
    · rcases List.mem_append.1 h1 with h2 | h2
      · exact .inr (.inr h2)
      · simp at h2; subst h2
        exact hx.imp_right .inl
  zero := by
    rcases h.zero with h1 | h1 | h1
    · exact .inl h1
    · exact .inr (.inl h1)
    · rcases List.mem_append.1 h1 with h2 | h2
      · exact .inr (.inr h2)
      · simp at h2; subst h2
        rcases hx with hx | hx
        · exact .inl hx.symm
        · exact .inr (.inl (by simpa using hx))
theorem Work.mark {g : List (List Int)} (hg : Fits g) {a x : Int} {s : List Bool} {td l : List Int} (h : Work g a s (td ++ [x])) (hx : x ≠ a) (hl : g[x.toNat]? = some l) : Work g a (s.set x.toNat true) (td ++ l) where
  len := by simpa using h.len
  sound := fun v hv => by
    rw [List.getElem?_set] at hv
    split at hv
    · rename_i e; subst e; exact (h.todo x (by simp)).2.2 hx
    · exact h.sound v hv
  todo := fun y hy => by
    rcases List.mem_append.1 hy with hy | hy
    · exact h.todo y (by simp [hy])
    · have h1 := hg.inn _ _ hl y hy
      refine ⟨h1.1, h1.2, fun hya => ?_⟩
      exact Reach.step ((h.todo x (by simp)).2.2 hx) hl (v := y.toNat) (by rw [Int.toNat_of_nonneg h1.1]; exact hy) (by rw [Int.toNat_of_nonneg h1.1]; exact hya) (by omega)
  closed := fun u k hu hk y hy => by
    have hm := (more_set s x.toNat).more
    rw [List.getElem?_set] at hu
    split at hu
    · rename_i e
      subst e
      rw [hl] at hk
      cases hk
      exact .inr (.inr (by simp [hy]))
    · rcases h.closed u k hu hk y hy with h1 | h1 | h1
      · exact .inl h1
      · exact .inr (.inl (hm _ h1))
      · rcases List.mem_append.1 h1 with h2 | h2
        · exact .inr (.inr (by simp [h2]))
        · simp at h2; subst h2
          refine .inr (.inl ?_)
          have hlt := h.todo y (by simp)
          rw [List.getElem?_set, if_pos rfl, if_pos (by have := h.len; omega)]
  zero := by
    have hm := (more_set s x.toNat).more
    rcases h.zero with h1 | h1 | h1
    · exact .inl h1
    · exact .inr (.inl (hm _ h1))
    · rcases List.mem_append.1 h1 with h2 | h2
      · exact .inr (.inr (by simp [h2]))
      · simp at h2; subst h2
        refine .inr (.inl ?_)
        have hlt := hg.pos
        have hsl := h.len
        simp only [Int.toNat_zero, List.getElem?_set, if_true]
        rw [if_pos (by omega)]
theorem Work.done {g : List (List Int)} {a : Int} {s : List Bool} (h : Work g a s []) : s = reachRow g a := by
  refine eq_reachRow h.len (fun v => ⟨h.sound v, fun hv => ?_⟩)
  refine reach_closed (S := fun v => s[v]? = some true) (fun ha _ => ?_) (fun u l hu _ hl x hx hxa _ => ?_) hv
  · rcases h.zero with h1 | h1 | h1
    · exact absurd h1 ha
    · exact h1
    · simp at h1
  · rcases h.closed u l hu hl x hx with h1 | h1 | h1
    · exact absurd h1 hxa
    · simpa using h1
    · simp at h1

theorem own_pop {w : World} {base g cap m : Nat} {e : TypeId} {xs : List Value} {v : Value} (h : w.ownsRow base e 1 (.slice (some ⟨g, 0, none⟩) (m + 1) cap) (m + 1) (xs ++ [v])) : w.ownsRow base e 1 (.slice (some ⟨g, 0, none⟩) m cap) m xs := by
  have hl : xs.length = m := by have := h.1; simp at this; omega
  rcases h.2 with ⟨h1, h2⟩ | ⟨g', cap', cur, hv, hb, hg, hn, hm, hc, ht⟩
  · omega
  · simp only [Value.slice.injEq, Option.some.injEq, Addr.mk.injEq, and_true, true_and] at hv
    obtain ⟨rfl, rfl⟩ := hv
    refine ⟨by omega, .inr ⟨g, cap, cur, rfl, hb, hg, by omega, hm, hc, ?_⟩⟩
    have := congrArg (List.take m) ht
    rw [List.take_take, List.take_left' hl] at this
    rw [Nat.mul_one]
    rwa [Nat.min_eq_left (by omega)] at this
theorem own_one (w : World) (base : Nat) (e : TypeId) (v : Value) (hb : base ≤ w.heap.size) : (w.alloc (.cells #[v] e)).ownsRow base e 1 (.slice (some ⟨w.heap.size, 0, none⟩) 1 1) 1 [v] :=
  ⟨rfl, .inr ⟨w.heap.size, 1, #[v], rfl, hb, heap_alloc_new w _, Nat.le_refl _, by decide, rfl, rfl⟩⟩
theorem own_some {w : World} {base m cap : Nat} {e : TypeId} {a : Option Addr} {xs : List Value} (h : w.ownsRow base e 1 (.slice a (m + 1) cap) (m + 1) xs) : ∃ g, a = some ⟨g, 0, none⟩ := by
  rcases h.2 with ⟨h1, h2⟩ | ⟨g', cap', cur, hv, _⟩
  · omega
  · simp only [Value.slice.injEq] at hv
    exact ⟨g', hv.1⟩

/-- What holds in each round. -/
structure RW (g : List (List Int)) (a : Int) (C : Array Value) (sb : Nat) (w : World) (F : Nat) (ta : Option Addr) (L tc : Nat) (s : List Bool) (td : List Int) (wr : World) : Prop where
  work : Work g a s td
  fuel : wt g s + td.length ≤ F
  small : wt g s + td.length ≤ 2097152
  list : wr.ownsRow w.heap.size 3 1 (.slice ta L tc) L (td.map (Value.int .i64))
  seen : wr.ownsRow w.heap.size 4 1 (.slice (some ⟨sb, 0, none⟩) g.length g.length) g.length (s.map Value.bool)
  cblk : wr.heap[w.heap.size]? = some (.cells C 51 (0, 0))
  below : Below w.heap.size w wr
  lt : w.heap.size < wr.heap.size

set_option maxRecDepth 100000 in
set_option maxHeartbeats 2000000 in
theorem reachedWithout_any (g : List (List Int)) (hf : Fits g) (p r : Int) (ba : Option Addr) (bc : Nat) (a : Int) (w : World) (hg : Gr w ba g) :
    Calls Try.prog 134 #[.agg #[.int .i64 p, .int .i64 r, .slice ba g.length bc], .int .i64 a] w fun e w' =>
      ∃ sb, e = .returned (.slice (some ⟨sb, 0, none⟩) g.length g.length) ∧ w'.ownsRow w.heap.size 4 1 (.slice (some ⟨sb, 0, none⟩) g.length g.length) g.length ((reachRow g a).map Value.bool) ∧ Below w.heap.size w w' := by
  obtain ⟨i0, hi, hz0, hz1, hz2⟩ := info_parts info_bool
  have hlen := hg.len
  have hsmall := hg.small
  have HI := Lib.hid (And.intro hi (And.intro hz0 (And.intro hz1 hz2)))
  clear hi hz0 hz1 hz2
  have hcl : (w.alloc (.cells #[.int .i64 p, .int .i64 r, .slice ba g.length bc] 51)).heap[w.heap.size]? = _ := heap_alloc_new w _
  have HC := Lib.hid hcl
  clear hcl
  go_enter Try.func134, Try.ntmps134
  go_wp2_with (at_make; refine wpList_make_full _ rfl _ _ 124 rfl w.heap.size 4 i0 (.bool false) 1 und_bools HI.out.1 HI.out.2.1 HI.out.2.2.1 _ _ _ _ g.length rfl rfl rfl rfl (by rw [HI.out.2.2.2]; omega) (by unfold maxLen; omega) (by simp) ?_; intro w1 hown hg1; rw [made_bools] at hown)
  have hb1 : Below w.heap.size w w1 := ((Below.refl _ _).alloc (Nat.le_refl _) _).grown hg1 (by simp) (by simp)
  have hC1 := (hg1.block w.heap.size (by simp) (by simp)).trans HC.out
  have hsz1 : w.heap.size + 1 < w1.heap.size := by
    have := (hown.lt _ rfl).2
    rw [World.size_alloc] at this
    exact this
  rw [World.size_alloc] at hown
  have hRW : RW g a #[.int .i64 p, .int .i64 r, .slice ba g.length bc] (w.heap.size + 1) w (wt g (List.replicate g.length false) + 1) (some ⟨w1.heap.size, 0, none⟩) 1 1 (List.replicate g.length false) [0] (w1.alloc (.cells #[.int .i64 0] 3)) :=
    ⟨Work.start hf a, Nat.le_refl _, by have := wt_le g (List.replicate g.length false); simp only [List.length_cons, List.length_nil]; omega, own_one _ _ _ _ (by omega), hown.alloc _, (heap_alloc_old w1 _ (by omega)).trans hC1, hb1.alloc (by omega) _, by simp; omega⟩
  have HRW := Lib.hid hRW
  clear hRW hC1 hown hb1 hg1
  go_wp2
  go_loopg [6] (wt g (List.replicate g.length false) + 1) (fun F t wr => ∃ (L : Nat) (ta : Option Addr) (tc : Nat) (s : List Bool) (td : List Int), t = .slice ta L tc ∧ Hid (RW g a #[.int .i64 p, .int .i64 r, .slice ba g.length bc] (w.heap.size + 1) w F ta L tc s td wr))
  case atStart => exact ⟨1, _, 1, _, _, rfl, HRW⟩
  case round =>
    obtain ⟨L, ta, tc, s, td, rfl, HK⟩ := hrel
    clear HRW
    by_cases hz : L = 0
    · subst hz
      go_wp2
      go_ret
      have hk := HK.out
      have htd : td = [] := by have := hk.list.1; simpa using this
      subst htd
      exact ⟨_, rfl, by rw [← hk.work.done]; exact hk.seen, hk.below⟩
    · obtain ⟨m, rfl⟩ : ∃ m, L = m + 1 := ⟨L - 1, by omega⟩
      obtain ⟨tb, rfl⟩ := own_some HK.out.list
      have hlt : td.length = m + 1 := by have := HK.out.list.1; simpa using this
      obtain ⟨td', x, rfl⟩ : ∃ td' x, td = td' ++ [x] := ⟨td.dropLast, td.getLast (by intro e; subst e; simp at hlt), (List.dropLast_concat_getLast _).symm⟩
      have hl' : td'.length = m := by simp at hlt; omega
      have hcap := (own_cap HK.out.list).1
      have hcx : wr.cell? ⟨tb, m, none⟩ = some (.int .i64 x) := by
        rw [HK.out.list.cellAt m (by omega), List.map_append, List.getElem?_append_right (by simp [hl'])]
        simp [hl']
      have hpop : wr.ownsRow w.heap.size 3 1 (.slice (some ⟨tb, 0, none⟩) m tc) m (td'.map (Value.int .i64)) := own_pop (v := .int .i64 x) (by have := HK.out.list; rwa [List.map_append] at this)
      have hxr := HK.out.work.todo x (by simp)
      obtain ⟨v, rfl⟩ : ∃ v : Nat, x = (v : Int) := ⟨x.toNat, by omega⟩
      have hvn : v < g.length := by omega
      have hsl := HK.out.work.len
      obtain ⟨sv, hsv⟩ : ∃ sv, s[v]? = some sv := ⟨_, List.getElem?_eq_getElem (by omega)⟩
      have hcs : wr.cell? ⟨w.heap.size + 1, v, none⟩ = some (.bool sv) := by rw [HK.out.seen.cellAt v (by omega), List.getElem?_map, hsv]; rfl
      have hfs := HK.out.seen.frozenAt v
      have HP := Lib.hid (And.intro hpop (And.intro hsv hl'))
      have hmb : m ≤ 2097152 := by have := HK.out.small; simp at this; omega
      clear hpop hsv hl' hxr hlt hsl hz
      by_cases hxa : (v : Int) = a
      · have heq : ((v : Int) == a) = true := by simpa using hxa
        have hk := HK.out
        have hw := hk.work.skip (.inl hxa)
        have hnext : RW g a #[.int .i64 p, .int .i64 r, .slice (ba) g.length bc] (w.heap.size + 1) w (gk - 1) (some ⟨tb, 0, none⟩) m tc s td' wr := ⟨hw, by have := hk.fuel; simp at this; omega, by have := hk.small; simp at this; omega, HP.out.1, hk.seen, hk.cblk, hk.below, hk.lt⟩
        have hgk : gk - 1 < gk := by have := hk.fuel; simp at this; omega
        have HN := Lib.hid (And.intro hnext hgk)
        clear hnext hgk hw hk hxa
        go_wp2
        go_roundg (gk - 1)
        case measure => exact HN.out.2
        case rel => exact ⟨m, _, tc, s, td', rfl, HN.out.1⟩
      · have heq : ((v : Int) == a) = false := by simpa using hxa
        cases sv with
        | true =>
          have hk := HK.out
          have hw := hk.work.skip (.inr HP.out.2.1)
          have hnext : RW g a #[.int .i64 p, .int .i64 r, .slice (ba) g.length bc] (w.heap.size + 1) w (gk - 1) (some ⟨tb, 0, none⟩) m tc s td' wr := ⟨hw, by have := hk.fuel; simp at this; omega, by have := hk.small; simp at this; omega, HP.out.1, hk.seen, hk.cblk, hk.below, hk.lt⟩
          have hgk : gk - 1 < gk := by have := hk.fuel; simp at this; omega
          have HN := Lib.hid (And.intro hnext hgk)
          clear hnext hgk hw hk hxa
          go_wp2
          go_roundg (gk - 1)
          case measure => exact HN.out.2
          case rel => exact ⟨m, _, tc, s, td', rfl, HN.out.1⟩
        | false =>
          have hk := HK.out
          obtain ⟨bb, boff, l, na, nc, rfl, hl, hc4w, hin, hnil⟩ := hg.place2 hvn
          have hc4 := cell_later hk.below hc4w
          clear hc4w
          have hll := hg.row hl
          have hmark := hk.work.mark hf hxa (l := l) (by simpa using hl)
          have hwt := wt_set HP.out.2.1 hl
          have hst := hk.seen.stored v (.bool true)
          have hk2 : wr.cell? ⟨w.heap.size, 2, none⟩ = some (.slice (some ⟨bb, boff, none⟩) g.length bc) := cell_of_row _ _ 2 _ _ _ hk.cblk
          have hfu := hk.fuel
          have hsm := hk.small
          have hPl := HP.out.2.2
          simp only [List.length_append, List.length_cons, List.length_nil] at hfu hsm
          have htyp : tb ≠ w.heap.size + 1 := fun e => own_apart HP.out.1 hk.seen (by decide) (k := w.heap.size + 1) (by simp [Value.ownBlock, e]) rfl
          have HQ := Lib.hid (And.intro hmark (And.intro hwt (And.intro hfu hsm)))
          have hpo : (wr.setCell ⟨w.heap.size + 1, v, none⟩ (.bool true)).ownsRow w.heap.size 3 1 (.slice (some ⟨tb, 0, none⟩) m tc) m (td'.map (Value.int .i64)) :=
            own_turned (S := fun k => k = w.heap.size + 1) HP.out.1 (turned_of_grown hst.2 (fun k hk => by cases hk; rfl)) (fun k hk => by simp only [Value.ownBlock, Option.some.injEq] at hk; omega)
          have hws : Below w.heap.size w (wr.setCell ⟨w.heap.size + 1, v, none⟩ (.bool true)) := hk.below.setCell (by show w.heap.size ≤ w.heap.size + 1; omega) _
          have hrow : RowAt (wr.setCell ⟨w.heap.size + 1, v, none⟩ (.bool true)) na (l.map (Value.int .i64)) := (hin.later hws).row
          have hszw := hws.size
          clear hmark hwt hfu hsm hl hxa hk
          go_wp2_with (at_builtin; refine app_ints rfl (.tmp 39) (.tmp 45) rfl w.heap.size _ m _ rfl hpo _ l.length _ l rfl rfl hrow hnil (by omega) hszw ?_; intro a5 c5 w5 hown5 hg5 hlies5)
          have hn := HQ.out
          have hk := HK.out
          have hb5 : Below w.heap.size w w5 := hws.grown hg5 hszw (fun j hj => (hpo.lt j hj).1)
          have hown6 : w5.ownsRow w.heap.size 3 1 (.slice a5 (m + l.length) c5) (m + l.length) ((td' ++ l).map (Value.int .i64)) := by rw [List.map_append]; exact hown5
          have hnext : RW g a #[.int .i64 p, .int .i64 r, .slice (some ⟨bb, boff, none⟩) g.length bc] (w.heap.size + 1) w (gk - 1) a5 (m + l.length) c5 (s.set v true) (td' ++ l) w5 := by
            refine ⟨by simpa using hn.1, ?_, ?_, hown6, ?_, ?_, hb5, ?_⟩
            · have h1 := hn.2.1; have h2 := hn.2.2.1; rw [List.length_append]; omega
            · have h1 := hn.2.1; have h2 := hn.2.2.2; rw [List.length_append]; omega
            · rw [List.map_set]
              exact own_turned (S := fun k => (Value.slice (some ⟨tb, 0, none⟩) m tc).ownBlock = some k) hst.1 (turned_of_grown hg5 (fun k hk => hk)) (fun k hk => own_apart hst.1 hpo (by decide) hk)
            · rw [hg5.block _ (by rw [World.size_setCell]; exact hk.lt) (fun e => ?_), heap_setCell_other _ _ _ _ (by show w.heap.size ≠ w.heap.size + 1; omega)]
              · exact hk.cblk
              · obtain ⟨cur, hc⟩ := own_type hpo e.symm
                rw [heap_setCell_other _ _ _ _ (by show w.heap.size ≠ w.heap.size + 1; omega), hk.cblk] at hc
                simp at hc
            · have := hg5.size; rw [World.size_setCell] at this; have := hk.lt; omega
          have hgk : gk - 1 < gk := by have := hn.2.2.1; omega
          go_roundg (gk - 1)
          case measure => exact hgk
          case rel => exact ⟨_, a5, c5, _, _, rfl, Lib.hid hnext⟩

end Go.Proofs.Ytkhnhdgbbjppeaa
