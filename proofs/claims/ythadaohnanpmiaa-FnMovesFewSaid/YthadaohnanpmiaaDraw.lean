/-
  The reference draws moves (l14List) and values (l14Values): short lists; nothing but the reader's block has changed.
-/
import Derived.Test.YthadaohnanpmiaaRd
import Derived.Test.YthadaohnanpmiaaMark
namespace Go.Proofs.Ythadaohnanpmiaa
open Go.RowKit

/-- A slice of slices that the call has made; its blocks lie from lo on. -/
structure MatMine (w : World) (lo : Nat) (a : Option Addr) (len cap : Nat) (rs : List Hd) : Prop where
  own : w.ownsRow lo 22 1 (.slice a len cap) len (rs.map Hd.val)
  rows : ∀ r ∈ rs, w.ownsRow lo 3 1 r.val r.xs.length (r.xs.map (Value.int .i64))
theorem MatMine.at {w : World} {lo : Nat} {a : Option Addr} {len cap : Nat} {rows : List Hd} (h : MatMine w lo a len cap rows) : MatAt w a len cap rows :=
  ⟨⟨by have := h.own.1; simpa using this, rowAt_of_own h.own, fun r hr => (ints_of_own (h.rows r hr)).toIntsRd⟩, (own_cap h.own).1, (own_cap h.own).2, own_addr h.own, fun r hr => ints_of_own (h.rows r hr)⟩
theorem MatMine.kept {w w' : World} {lo : Nat} {a : Option Addr} {len cap : Nat} {rows : List Hd} (h : MatMine w lo a len cap rows) {S : Nat → Prop} (ht : Turned S w w') (hS : ∀ k, S k → k < lo) : MatMine w' lo a len cap rows :=
  ⟨own_turned h.own ht (fun k hk hs => by have := (h.own.lt k hk).1; have := hS k hs; omega), fun r hr => own_turned (h.rows r hr) ht (fun k hk hs => by have := ((h.rows r hr).lt k hk).1; have := hS k hs; omega)⟩
theorem MatMine.far {w w' : World} {lo : Nat} {a : Option Addr} {len cap : Nat} {rows : List Hd} (h : MatMine w lo a len cap rows) {S : Nat → Prop} (ht : Turned S w w') (hS : ∀ k, S k → k < lo ∨ w.heap.size ≤ k) : MatMine w' lo a len cap rows :=
  ⟨own_turned h.own ht (fun k hk hs => by have := h.own.lt k hk; have := hS k hs; omega), fun r hr => own_turned (h.rows r hr) ht (fun k hk hs => by have := (h.rows r hr).lt k hk; have := hS k hs; omega)⟩
theorem MatMine.alloc {w : World} {lo : Nat} {a : Option Addr} {len cap : Nat} {rows : List Hd} (h : MatMine w lo a len cap rows) (o : Obj) : MatMine (w.alloc o) lo a len cap rows :=
  h.kept (S := fun _ => False) (turned_of_grown (World.grownBy_alloc w o none) (by simp)) (by simp)
/-- Blocks of two element types are two blocks. -/
theorem own_ne {w : World} {lo lo' : Nat} {e e' : TypeId} {s s' : Nat} {v v' : Value} {n n' : Nat} {xs xs' : List Value} (h : w.ownsRow lo e s v n xs) (h' : w.ownsRow lo' e' s' v' n' xs') (hne : e ≠ e') : ∀ k, v.ownBlock = some k → ¬ v'.ownBlock = some k := by
  intro k hk hk'
  rcases h.2 with ⟨hv, _⟩ | ⟨g, c, cur, hv, _, hg, _⟩
  · rw [hv] at hk; cases hk
  · rcases h'.2 with ⟨hv2, _⟩ | ⟨g2, c2, cur2, hv2, _, hg2, _⟩
    · rw [hv2] at hk'; cases hk'
    · rw [hv] at hk
      rw [hv2] at hk'
      simp only [Value.ownBlock, Option.some.injEq] at hk hk'
      subst hk hk'
      rw [hg] at hg2
      simp only [Option.some.injEq, Obj.cells.injEq] at hg2
      exact hne hg2.2.1
theorem mine_push {w w' : World} {lo : Nat} {a a' : Option Addr} {n cap c' : Nat} {rows : List Hd} {r : Hd} (h : MatMine w lo a n cap rows) (hr : w.ownsRow lo 3 1 r.val r.xs.length (r.xs.map (Value.int .i64)))
    (hown : w'.ownsRow lo 22 1 (.slice a' (n + 1) c') (n + 1) (rows.map Hd.val ++ [r.val])) (hg : w.grownBy w' (Value.slice a n cap).ownBlock) : MatMine w' lo a' (n + 1) c' (rows ++ [r]) := by
  have ht := turned_of_grown hg (S := fun k => (Value.slice a n cap).ownBlock = some k) (fun k hk => hk)
  refine ⟨by simpa using hown, fun x hx => ?_⟩
  rcases List.mem_append.1 hx with hx | hx
  · exact own_turned (h.rows x hx) ht (own_ne (h.rows x hx) h.own (by decide))
  · simp at hx
    subst hx
    exact own_turned hr ht (own_ne hr h.own (by decide))
theorem mine_set {w : World} {lo g n cap : Nat} {rows : List Hd} {r : Hd} (h : MatMine w lo (some ⟨g, 0, none⟩) n cap rows) (hr : w.ownsRow lo 3 1 r.val r.xs.length (r.xs.map (Value.int .i64))) (i : Nat) :
    MatMine (w.setCell ⟨g, i, none⟩ r.val) lo (some ⟨g, 0, none⟩) n cap (rows.set i r) ∧ ∀ r' : Hd, w.ownsRow lo 3 1 r'.val r'.xs.length (r'.xs.map (Value.int .i64)) → (w.setCell ⟨g, i, none⟩ r.val).ownsRow lo 3 1 r'.val r'.xs.length (r'.xs.map (Value.int .i64)) := by
  have ht := turned_of_grown (h.own.stored i r.val).2 (S := fun k => (Value.slice (some ⟨g, 0, none⟩) n cap).ownBlock = some k) (fun k hk => hk)
  have hkeep : ∀ r' : Hd, w.ownsRow lo 3 1 r'.val r'.xs.length (r'.xs.map (Value.int .i64)) → (w.setCell ⟨g, i, none⟩ r.val).ownsRow lo 3 1 r'.val r'.xs.length (r'.xs.map (Value.int .i64)) :=
    fun r' hr' => own_turned hr' ht (own_ne hr' h.own (by decide))
  refine ⟨⟨by rw [List.map_set]; exact (h.own.stored i r.val).1, fun x hx => ?_⟩, hkeep⟩
  rcases List.mem_or_eq_of_mem_set hx with hx | rfl
  · exact hkeep x (h.rows x hx)
  · exact hkeep x hr
/-- The place of a row of the call's own. -/
theorem mine_place {w : World} {lo : Nat} {a : Option Addr} {n cap : Nat} {rows : List Hd} (h : MatMine w lo a n cap rows) {i : Nat} (hi : i < n) :
    ∃ g ai ci xs, a = some ⟨g, 0, none⟩ ∧ rows[i]? = some ⟨ai, ci, xs⟩ ∧ w.cell? ⟨g, i, none⟩ = some (.slice ai xs.length ci) ∧ w.frozen? ⟨g, i, none⟩ = false ∧ lo ≤ g ∧ w.ownsRow lo 3 1 (.slice ai xs.length ci) xs.length (xs.map (Value.int .i64)) := by
  have hlen : rows.length = n := by have := h.own.1; simpa using this
  rcases h.own.2 with ⟨hv, h0⟩ | ⟨g, cap', cur, hv, hb, _⟩
  · omega
  · simp only [Value.slice.injEq] at hv
    obtain ⟨rfl, _, rfl⟩ := hv
    have hx : rows[i]? = some (rows[i]'(by omega)) := List.getElem?_eq_getElem _
    refine ⟨g, _, _, _, rfl, hx, ?_, h.own.frozenAt i, hb, h.rows _ (List.getElem_mem _)⟩
    rw [h.own.cellAt i (by omega), List.getElem?_map, hx]
    rfl
theorem mine_empty (w : World) (lo : Nat) (hb : lo ≤ w.heap.size) : MatMine (w.alloc (.cells #[] 22)) lo (some ⟨w.heap.size, 0, none⟩) 0 0 [] :=
  ⟨own_empty w lo 22 1 hb, by simp⟩

section
variable {w : World} {ops : Array Oper} {rest : List Oper} {o : Oper} {a : Act} {Q : Exit → Act → World → Prop}
/-- append of one row onto rows of the call's own. -/
theorem app_row (hgd : o.guard = none) (s x : Operand) (ho : o.op = .call { callee := .builtin .append, args := #[s, x], argTypes := #[31, 31] })
    (base : Nat) (v : Value) (n : Nat) (xs : List Value) (hs : a.eval s = v) (hown : w.ownsRow base 22 1 v n xs)
    (ao : Option Addr) (c : Nat) (y : Value) (hx : a.eval x = .slice ao 1 c) (hrow : RowAt w ao [y]) (hone : y.oneCell' = true)
    (hb : n + 1 ≤ 1099511627776) (hbase : base ≤ w.heap.size)
    (h : ∀ a' c' w', w'.ownsRow base 22 1 (.slice a' (n + 1) c') (n + 1) (xs ++ [y]) → w.grownBy w' v.ownBlock →
      ((Value.slice a' (n + 1) c').ownBlock = v.ownBlock ∨ (Value.slice a' (n + 1) c').ownBlock = some w.heap.size) → wpList Try.prog ops Q rest (a.put o.dst (.slice a' (n + 1) c')) w') : wpList Try.prog ops Q (o :: rest) a w := by
  obtain ⟨i0, hi, hz0, hz1, hz2⟩ := info_parts info_ints
  exact wpList_append_any hgd s x 31 ho base 22 i0 (.slice none 0 0) 1 24 und_mat hi hz0 hz1 hz2 rfl (by decide) v n xs hs hown ao 1 c _ hx (by simp) hrow (by
    rintro rfl
    rcases hrow with h | ⟨_, _, h, _⟩
    · cases h
    · cases h) (by simpa using hone) (by unfold maxLen; omega) (by omega) hbase h
end

/-- A slice literal of ints is owned. -/
theorem own_lit (w : World) (lo : Nat) (xs : List Int) (hb : lo ≤ w.heap.size) (hm : xs.length ≤ maxLen) :
    (w.alloc (.cells (xs.map (Value.int .i64)).toArray 3)).ownsRow lo 3 1 (.slice (some ⟨w.heap.size, 0, none⟩) xs.length xs.length) xs.length (xs.map (Value.int .i64)) := by
  refine ⟨by simp, .inr ⟨w.heap.size, xs.length, _, rfl, hb, heap_alloc_new w _, Nat.le_refl _, hm, by simp, ?_⟩⟩
  rw [Nat.mul_one, List.take_of_length_le (by simp)]

/-- Moves were drawn. -/
def DrewMat (w0 : World) (br : Nat) (a : Option Addr) (len cap : Nat) (bs : List Int) (p : Nat) (e : Ending) (w' : World) : Prop :=
  ∃ a' n c rows p', e = .returned (.slice a' n c) ∧ MatMine w' (br + 1) a' n c rows ∧ n ≤ 9 ∧ Rd w0 w' br a len cap bs p' ∧ p' ≤ p + 60

theorem lit_rd (w : World) (xs : List Int) (hm : xs.length ≤ maxLen) : IntsRd (w.alloc (.cells (xs.map (Value.int .i64)).toArray 3)) (some ⟨w.heap.size, 0, none⟩) xs.length xs :=
  (ints_of_own (own_lit w 0 xs (Nat.zero_le _) hm)).toIntsRd

set_option maxHeartbeats 1000000 in
theorem l14List_any (w0 w : World) (br : Nat) (a : Option Addr) (len cap : Nat) (bs : List Int) (p : Nat) (hrd : Rd w0 w br a len cap bs p) (hlen : len ≤ 2000) (hp : p ≤ 1000000) :
    Calls Try.prog 61 #[.pointer (some ⟨br, 0, none⟩)] w fun e w' => DrewMat w0 br a len cap bs p e w' := by
  go_enter Try.func61, Try.ntmps61
  go_wp2_with fail
  refine (num_any w0 _ br a len cap bs p w.heap.size 5 5 [4, 6, 3, 8, 2] (hrd.alloc _) (lit_rd w [4, 6, 3, 8, 2] (by decide)) (by have := hrd.lt; omega) (by omega) hlen (by omega)).mono ?_
  rintro e w1 ⟨n, hn, rfl, hrd1, _⟩
  have hn2 : 2 ≤ n ∧ n ≤ 8 := by simp at hn; omega
  obtain ⟨hn2, hn8⟩ := hn2
  clear hn
  have hlt1 := hrd1.lt
  have hm1 := mine_empty w1 (br + 1) (by omega)
  have hrd1' := hrd1.alloc (.cells #[] 22)
  go_wp2_with fail
  refine (pick_any w0 _ br a len cap bs (p + 1) 5 hrd1' (by omega) hlen (by omega)).mono ?_
  rintro e w2 ⟨v2, _, _, rfl, hrd2, hg2⟩
  have hm2 := hm1.kept (S := fun k => k = br) (turned_of_grown hg2 (fun k hk => by cases hk; rfl)) (fun k hk => by omega)
  clear hrd hrd1 hrd1' hm1 hg2 hlt1
  obtain ⟨once, honce⟩ : ∃ b, decide (0 < v2) = b := ⟨_, rfl⟩
  go_wp2
  clear honce
  go_loopw [4, 6] (fun o i wr => ∃ (k m c : Nat) (ao : Option Addr) (rows : List Hd) (q : Nat), (k : Int) ≤ n ∧ i = .int .i64 k ∧ o = .slice ao m c ∧ m ≤ k ∧ q ≤ p + 2 + 3 * k ∧ MatMine wr (br + 1) ao m c rows ∧ Rd w0 wr br a len cap bs q) (fun _ i _ => (n - intOf i).toNat)
  case atStart => exact ⟨0, 0, _, _, [], _, by omega, rfl, rfl, Nat.le_refl _, by omega, hm2, hrd2⟩
  case round =>
    obtain ⟨k, m, c, ao, rows, q, hk, rfl, rfl, hm, hq, hmat, hrd⟩ := hrel
    clear hm2 hrd2
    by_cases hlt : (k : Int) < n
    · cases once
      · go_wp2_with fail
        refine (pick_any w0 _ br a len cap bs q n hrd (by omega) hlen (by omega)).mono ?_
        rintro e w3 ⟨v3, _, _, rfl, hrd3, hg3⟩
        have hmat3 := hmat.kept (S := fun k => k = br) (turned_of_grown hg3 (fun k hk => by cases hk; rfl)) (fun k hk => by omega)
        clear hmat hrd hg3
        obtain ⟨q3, hq3, hrd3⟩ : ∃ q3, q3 ≤ q + 1 ∧ Rd w0 w3 br a len cap bs q3 := ⟨_, Nat.le_refl _, hrd3⟩
        go_wp2_with fail
        refine (pick_any w0 _ br a len cap bs q3 5 hrd3 (by omega) hlen (by omega)).mono ?_
        rintro e w4 ⟨v4, _, _, rfl, hrd4, hg4⟩
        have hmat4 := hmat3.kept (S := fun k => k = br) (turned_of_grown hg4 (fun k hk => by cases hk; rfl)) (fun k hk => by omega)
        clear hmat3 hrd3 hg4
        by_cases hv4 : 0 < v4
        · go_wp2_with fail
          refine (pick_any w0 _ br a len cap bs (q3 + 1) n hrd4 (by omega) hlen (by omega)).mono ?_
          rintro e w5 ⟨v5, _, _, rfl, hrd5, hg5⟩
          have hmat5 := hmat4.kept (S := fun k => k = br) (turned_of_grown hg5 (fun k hk => by cases hk; rfl)) (fun k hk => by omega)
          have hl5 := hrd5.lt
          clear hmat4 hrd4 hg5
          have hr5 := own_lit w5 (br + 1) [v3, v5] (by omega) (by show 2 ≤ maxLen; unfold maxLen; omega)
          have hrow5 := ((hmat5.alloc (.cells ([v3, v5].map (Value.int .i64)).toArray 3)).alloc (.cells #[.slice (some ⟨w5.heap.size, 0, none⟩) 2 2] 22))
          have hrr5 := hr5.alloc (.cells #[.slice (some ⟨w5.heap.size, 0, none⟩) 2 2] 22)
          have hrd5' := (hrd5.alloc (.cells ([v3, v5].map (Value.int .i64)).toArray 3)).alloc (.cells #[.slice (some ⟨w5.heap.size, 0, none⟩) 2 2] 22)
          have hone := rowAt_one (w5.alloc (.cells ([v3, v5].map (Value.int .i64)).toArray 3)) (.slice (some ⟨w5.heap.size, 0, none⟩) 2 2) 22
          rw [World.size_alloc] at hone
          go_wp2_with (at_builtin; refine app_row rfl (.tmp 32) (.tmp 38) rfl (br + 1) _ m _ rfl hrow5.own _ _ _ rfl hone rfl (by omega) (by simp; omega) ?_; intro a6 c6 w6 hown6 hg6 hlies6)
          have hmat6 := mine_push (r := ⟨some ⟨w5.heap.size, 0, none⟩, 2, [v3, v5]⟩) hrow5 hrr5 hown6 hg6
          have hl6 := hrow5.own.lt
          have hrd6 := hrd5'.kept hg6 (fun j hj => by have := (hl6 j hj).1; omega)
          clear hr5 hrow5 hrr5 hrd5' hone hown6 hg6 hlies6 hl6 hmat5 hrd5
          go_wp2
          go_roundw
          case rel => exact ⟨k + 1, m + 1, _, _, _, _, by omega, by go_num, rfl, by omega, by omega, hmat6, hrd6⟩
          case measure => simp [intOf]; omega
        · go_wp2
          go_roundw
          case rel => exact ⟨k + 1, m, _, _, _, _, by omega, by go_num, rfl, by omega, by omega, hmat4, hrd4⟩
          case measure => simp [intOf]; omega
      · obtain ⟨w3, hw3⟩ : ∃ w3 : World, w3 = wr := ⟨_, rfl⟩
        subst hw3
        have hmat3 := hmat
        have hrd3 := hrd
        clear hmat hrd
        go_wp2_with fail
        refine (pick_any w0 _ br a len cap bs q 5 hrd3 (by omega) hlen (by omega)).mono ?_
        rintro e w4 ⟨v4, _, _, rfl, hrd4, hg4⟩
        have hmat4 := hmat3.kept (S := fun k => k = br) (turned_of_grown hg4 (fun k hk => by cases hk; rfl)) (fun k hk => by omega)
        clear hmat3 hrd3 hg4
        by_cases hv4 : 0 < v4
        · go_wp2_with fail
          refine (pick_any w0 _ br a len cap bs (q + 1) n hrd4 (by omega) hlen (by omega)).mono ?_
          rintro e w5 ⟨v5, _, _, rfl, hrd5, hg5⟩
          have hmat5 := hmat4.kept (S := fun k => k = br) (turned_of_grown hg5 (fun k hk => by cases hk; rfl)) (fun k hk => by omega)
          have hl5 := hrd5.lt
          clear hmat4 hrd4 hg5
          have hr5 := own_lit w5 (br + 1) [(k : Int), v5] (by omega) (by show 2 ≤ maxLen; unfold maxLen; omega)
          have hrow5 := ((hmat5.alloc (.cells ([(k : Int), v5].map (Value.int .i64)).toArray 3)).alloc (.cells #[.slice (some ⟨w5.heap.size, 0, none⟩) 2 2] 22))
          have hrr5 := hr5.alloc (.cells #[.slice (some ⟨w5.heap.size, 0, none⟩) 2 2] 22)
          have hrd5' := (hrd5.alloc (.cells ([(k : Int), v5].map (Value.int .i64)).toArray 3)).alloc (.cells #[.slice (some ⟨w5.heap.size, 0, none⟩) 2 2] 22)
          have hone := rowAt_one (w5.alloc (.cells ([(k : Int), v5].map (Value.int .i64)).toArray 3)) (.slice (some ⟨w5.heap.size, 0, none⟩) 2 2) 22
          rw [World.size_alloc] at hone
          go_wp2_with (at_builtin; refine app_row rfl (.tmp 32) (.tmp 38) rfl (br + 1) _ m _ rfl hrow5.own _ _ _ rfl hone rfl (by omega) (by simp; omega) ?_; intro a6 c6 w6 hown6 hg6 hlies6)
          have hmat6 := mine_push (r := ⟨some ⟨w5.heap.size, 0, none⟩, 2, [(k : Int), v5]⟩) hrow5 hrr5 hown6 hg6
          have hl6 := hrow5.own.lt
          have hrd6 := hrd5'.kept hg6 (fun j hj => by have := (hl6 j hj).1; omega)
          clear hr5 hrow5 hrr5 hrd5' hone hown6 hg6 hlies6 hl6 hmat5 hrd5
          go_wp2
          go_roundw
          case rel => exact ⟨k + 1, m + 1, _, _, _, _, by omega, by go_num, rfl, by omega, by omega, hmat6, hrd6⟩
          case measure => simp [intOf]; omega
        · go_wp2
          go_roundw
          case rel => exact ⟨k + 1, m, _, _, _, _, by omega, by go_num, rfl, by omega, by omega, hmat4, hrd4⟩
          case measure => simp [intOf]; omega
    · have hm8 : m ≤ 8 := by omega
      have hq26 : q ≤ p + 26 := by omega
      go_wp2
      clear hlt hk hm hq
      go_loopw [8] (fun i wx => ∃ (t : Int) (rows' : List Hd) (q' : Nat), -1 ≤ t ∧ t < m ∧ i = .int .i64 t ∧ (q' : Int) ≤ p + 35 - t ∧ MatMine wx (br + 1) ao m c rows' ∧ Rd w0 wx br a len cap bs q') (fun i _ => (intOf i).toNat)
      case atStart => exact ⟨_, rows, q, by omega, by omega, rfl, by omega, hmat, hrd⟩
      case round =>
        obtain ⟨t, rows', q', ht0, ht1, rfl, hq', hmat', hrd'⟩ := hrel
        clear hmat hrd hq26
        by_cases hlt2 : 0 < t
        · obtain ⟨T, rfl⟩ := Int.eq_ofNat_of_zero_le (show 0 ≤ t by omega)
          go_wp2_with fail
          refine (pick_any w0 _ br a len cap bs q' ((T : Int) + 1) hrd' (by omega) hlen (by omega)).mono ?_
          rintro e w7 ⟨v7, hv70, hv71, rfl, hrd7, hg7⟩
          have hmat7 := hmat'.kept (S := fun k => k = br) (turned_of_grown hg7 (fun k hk => by cases hk; rfl)) (fun k hk => by omega)
          clear hmat' hrd' hg7
          obtain ⟨V, rfl⟩ := Int.eq_ofNat_of_zero_le hv70
          obtain ⟨g, aT, cT, xT, rfl, _, hcT, hfT, hg0, hoT⟩ := mine_place hmat7 (show T < m by omega)
          obtain ⟨g', aV, cV, xV, hgg, _, hcV, hfV, _, hoV⟩ := mine_place hmat7 (show V < m by omega)
          simp only [Option.some.injEq, Addr.mk.injEq, and_true] at hgg
          subst hgg
          obtain ⟨hmatA, hkeepA⟩ := mine_set (r := ⟨aV, cV, xV⟩) hmat7 hoV T
          have hoT2 := hkeepA ⟨aT, cT, xT⟩ hoT
          obtain ⟨hmatB, _⟩ := mine_set (r := ⟨aT, cT, xT⟩) hmatA hoT2 V
          obtain ⟨g', aU, cU, xU, hgg, _, hcU, hfU, _, _⟩ := mine_place hmatA (show V < m by omega)
          simp only [Option.some.injEq, Addr.mk.injEq, and_true] at hgg
          subst hgg
          have hrdA := (hrd7.kept (hmat7.own.stored T (.slice aV xV.length cV)).2 (fun j hj => by cases hj; omega)).kept (hmatA.own.stored V (.slice aT xT.length cT)).2 (fun j hj => by cases hj; omega)
          simp only [Hd.val] at hmatA hmatB hrdA hcU hfU
          clear hmat7 hoT hoV hkeepA hoT2 hmatA hv70 hrd7
          go_wp2
          go_roundw
          case rel => exact ⟨_, _, q' + 1, by omega, by omega, rfl, by omega, hmatB, hrdA⟩
          case measure => simp [intOf]; omega
        · go_wp2_with fail
          refine (pick_any w0 _ br a len cap bs q' 30 hrd' (by omega) hlen (by omega)).mono ?_
          rintro e w8 ⟨v8, _, _, rfl, hrd8, hg8⟩
          have hmat8 := hmat'.kept (S := fun k => k = br) (turned_of_grown hg8 (fun k hk => by cases hk; rfl)) (fun k hk => by omega)
          have hl8 := hrd8.lt
          clear hmat' hrd' hg8 hlt2
          by_cases hv0 : v8 = 0
          · subst hv0
            have hr5 := own_lit w8 (br + 1) [1] (by omega) (by decide)
            have hrow5 := ((hmat8.alloc (.cells ([1].map (Value.int .i64)).toArray 3)).alloc (.cells #[.slice (some ⟨w8.heap.size, 0, none⟩) 1 1] 22))
            have hrr5 := hr5.alloc (.cells #[.slice (some ⟨w8.heap.size, 0, none⟩) 1 1] 22)
            have hrd5' := (hrd8.alloc (.cells ([1].map (Value.int .i64)).toArray 3)).alloc (.cells #[.slice (some ⟨w8.heap.size, 0, none⟩) 1 1] 22)
            have hone := rowAt_one (w8.alloc (.cells ([1].map (Value.int .i64)).toArray 3)) (.slice (some ⟨w8.heap.size, 0, none⟩) 1 1) 22
            rw [World.size_alloc] at hone
            go_wp2_with (at_builtin; refine app_row rfl (.tmp 70) (.tmp 72) rfl (br + 1) _ m _ rfl hrow5.own _ _ _ rfl hone rfl (by omega) (by simp; omega) ?_; intro a6 c6 w6 hown6 hg6 hlies6)
            have hmat6 := mine_push (r := ⟨some ⟨w8.heap.size, 0, none⟩, 1, [1]⟩) hrow5 hrr5 hown6 hg6
            have hl6 := hrow5.own.lt
            have hrd6 := hrd5'.kept hg6 (fun j hj => by have := (hl6 j hj).1; omega)
            clear hr5 hrow5 hrr5 hrd5' hone hown6 hg6 hlies6 hl6 hmat8 hrd8
            go_wp2
            go_ret
            exact ⟨_, _, _, _, _, rfl, hmat6, by omega, hrd6, by omega⟩
          · have h0 : (v8 == 0) = false := by simpa using hv0
            by_cases hv1 : v8 = 1
            · subst hv1
              go_wp2_with fail
              refine (num_any w0 _ br a len cap bs (q' + 1) w8.heap.size 2 2 [-1, 300] (hrd8.alloc _) (lit_rd w8 [-1, 300] (by decide)) (by omega) (by omega) hlen (by omega)).mono ?_
              rintro e w9 ⟨v9, _, rfl, hrd9, hg9⟩
              have hmat9 := (hmat8.alloc (.cells ([-1, 300].map (Value.int .i64)).toArray 3)).kept (S := fun k => k = br) (turned_of_grown hg9 (fun k hk => by cases hk; rfl)) (fun k hk => by omega)
              have hl9 := hrd9.lt
              clear hmat8 hrd8 hg9
              have hr5 := own_lit w9 (br + 1) [9, v9] (by omega) (by show 2 ≤ maxLen; unfold maxLen; omega)
              have hrow5 := ((hmat9.alloc (.cells ([9, v9].map (Value.int .i64)).toArray 3)).alloc (.cells #[.slice (some ⟨w9.heap.size, 0, none⟩) 2 2] 22))
              have hrr5 := hr5.alloc (.cells #[.slice (some ⟨w9.heap.size, 0, none⟩) 2 2] 22)
              have hrd5' := (hrd9.alloc (.cells ([9, v9].map (Value.int .i64)).toArray 3)).alloc (.cells #[.slice (some ⟨w9.heap.size, 0, none⟩) 2 2] 22)
              have hone := rowAt_one (w9.alloc (.cells ([9, v9].map (Value.int .i64)).toArray 3)) (.slice (some ⟨w9.heap.size, 0, none⟩) 2 2) 22
              rw [World.size_alloc] at hone
              go_wp2_with (at_builtin; refine app_row rfl (.tmp 76) (.tmp 81) rfl (br + 1) _ m _ rfl hrow5.own _ _ _ rfl hone rfl (by omega) (by simp; omega) ?_; intro a6 c6 w6 hown6 hg6 hlies6)
              have hmat6 := mine_push (r := ⟨some ⟨w9.heap.size, 0, none⟩, 2, [9, v9]⟩) hrow5 hrr5 hown6 hg6
              have hl6 := hrow5.own.lt
              have hrd6 := hrd5'.kept hg6 (fun j hj => by have := (hl6 j hj).1; omega)
              clear hr5 hrow5 hrr5 hrd5' hone hown6 hg6 hlies6 hl6 hmat9 hrd9
              go_wp2
              go_ret
              exact ⟨_, _, _, _, _, rfl, hmat6, by omega, hrd6, by omega⟩
            · have h1 : (v8 == 1) = false := by simpa using hv1
              go_wp2
              go_ret
              exact ⟨_, _, _, _, _, rfl, hmat8, by omega, hrd8, by omega⟩

/-- Moves and values were drawn. -/
def DrewBoth (w : World) (e : Ending) (w' : World) : Prop :=
  ∃ a n c rows a' n' c' vals, e = .returned (.tuple #[.slice a n c, .slice a' n' c']) ∧ MatAt w' a n c rows ∧ n ≤ 9 ∧ IntsAt w' a' n' c' vals ∧ n' ≤ 10 ∧ (∀ x ∈ vals, 0 ≤ x ∧ x < 100) ∧ a' ≠ none ∧ Below w.heap.size w w'

set_option maxHeartbeats 1000000 in
theorem l14Values_any (w : World) (a : Option Addr) (len cap : Nat) (bs : List Int) (hin : BytesRd w a len bs) (hcap : len ≤ cap) :
    Calls Try.prog 50 #[.slice a len cap] w fun e w' => DrewBoth w e w' := by
  go_enter Try.func50, Try.ntmps50
  go_wp2_with fail
  refine (open_any w a len cap bs hin hcap).mono ?_
  rintro e w1 ⟨a1, len1, cap1, bs1, rfl, hrd1, hlen1, hsz1⟩
  clear hin hcap
  go_wp2_with fail
  refine (l14List_any w w1 w.heap.size a1 len1 cap1 bs1 0 hrd1 hlen1 (by omega)).mono ?_
  rintro e w2 ⟨a2, n2, c2, rows, p2, rfl, hm2, hn2, hrd2, hp2⟩
  have hl2 := hrd2.lt
  clear hrd1
  have hown2 := own_empty w2 w2.heap.size 3 1 (Nat.le_refl _)
  have hrd2' := hrd2.alloc (.cells #[] 3)
  have hlit := lit_rd (w2.alloc (.cells #[] 3)) [10, 10, 10, 3] (by decide)
  rw [World.size_alloc] at hlit
  go_wp2_with fail
  refine (num_any w _ w.heap.size a1 len1 cap1 bs1 p2 (w2.heap.size + 1) 4 4 [10, 10, 10, 3] (hrd2'.alloc _) hlit (by omega) (by omega) hlen1 (by omega)).mono ?_
  rintro e w3 ⟨v3, hv3, rfl, hrd3, hg3⟩
  have hv : 0 ≤ v3 ∧ v3 ≤ 10 := by simp at hv3; omega
  obtain ⟨hv0, hv10⟩ := hv
  have ht3 : Turned (fun k => k = w.heap.size ∨ w2.heap.size ≤ k) w2 w3 :=
    ((turned_of_grown (World.grownBy_alloc w2 (.cells #[] 3) none) (by simp)).trans (turned_of_grown (World.grownBy_alloc _ (.cells ([10, 10, 10, 3].map (Value.int .i64)).toArray 3) none) (by simp))).trans (turned_of_grown hg3 (fun k hk => by cases hk; exact .inl rfl))
  have hown3 := own_picked (hown2.alloc (.cells ([10, 10, 10, 3].map (Value.int .i64)).toArray 3)) hg3 (by omega)
  have HM2 := Lib.hid hm2
  clear hv3 hm2 hrd2 hrd2' hown2 hg3 hlit
  go_wp2
  go_loopw [6, 7] (fun o i wr => ∃ (k p : Nat) (ao : Option Addr) (n c : Nat) (xs : List Int), k ≤ 10 ∧ p ≤ 200 - k ∧ n ≤ 10 - k ∧ i = .int .i64 k ∧ o = .slice ao n c ∧ Hid (ao ≠ none) ∧ wr.ownsRow w2.heap.size 3 1 (.slice ao n c) n (xs.map (Value.int .i64)) ∧
      Hid (∀ x ∈ xs, 0 ≤ x ∧ x < 100) ∧ Rd w wr w.heap.size a1 len1 cap1 bs1 p ∧ Turned (fun k => k = w.heap.size ∨ w2.heap.size ≤ k) w2 wr) (fun _ i _ => (intOf i).toNat)
  case atStart =>
    obtain ⟨k, rfl⟩ := Int.eq_ofNat_of_zero_le hv0
    exact ⟨k, p2 + 1, _, _, _, [], by omega, by omega, by omega, rfl, rfl, Lib.hid (by simp), hown3, Lib.hid (by simp), hrd3, ht3⟩
  case round =>
    obtain ⟨k, p, ao, n, c, xs, hk, hp, hn, rfl, rfl, hao, hown, hwf, hrd, ht⟩ := hrel
    clear hown3 hrd3 ht3
    by_cases hlt : 0 < k
    · go_wp2_with fail
      refine (pick_any w _ w.heap.size a1 len1 cap1 bs1 p 100 hrd (by omega) hlen1 (by omega)).mono ?_
      rintro e w4 ⟨v4, hv40, hv41, rfl, hrd4, hg4⟩
      have hown4 := own_picked hown hg4 (by omega)
      have ht4 := ht.trans (turned_of_grown hg4 (fun k hk => by cases hk; exact .inl rfl))
      have hts := ht4.size
      clear hown hrd hg4 ht
      go_wp2_with (at_builtin; refine app_ints rfl (.tmp 20) (.tmp 23) rfl w2.heap.size _ n _ rfl (hown4.alloc _) _ 1 _ [v4] rfl rfl (rowAt_one _ _ _) (by rintro ⟨⟩) (by omega) (by simp; omega) ?_; intro a5 c5 w5 hown5 hg5 hlies5)
      have hl4 := hown4.lt
      have hrd5 := (hrd4.alloc (.cells #[.int .i64 v4] 3)).kept hg5 (fun j hj => by have := (hl4 j hj).1; omega)
      have ht5 := (ht4.trans (turned_of_grown (World.grownBy_alloc w4 (.cells #[.int .i64 v4] 3) none) (by simp))).trans (turned_of_grown hg5 (fun k hk => .inr (hl4 k hk).1))
      rw [← List.map_append] at hown5
      have hne5 : a5 ≠ none := by
        rintro rfl
        rcases hown5.2 with ⟨_, h⟩ | ⟨_, _, _, h, _⟩
        · omega
        · cases h
      have HN5 := Lib.hid hne5
      clear hown4 hg5 hlies5 hrd4 ht4 hl4 hne5
      go_wp2
      go_roundw
      case rel =>
        refine ⟨k - 1, p + 1, _, _, _, xs ++ [v4], by omega, by omega, by omega, ?_, rfl, HN5, hown5, Lib.hid ?_, hrd5, ht5⟩
        · congr 1; omega
        · intro x hx
          rcases List.mem_append.1 hx with hx | hx
          · exact hwf.out x hx
          · simp at hx; subst hx; exact ⟨hv40, hv41⟩
      case measure => simp [intOf]; omega
    · obtain rfl : k = 0 := by omega
      have hb := hrd.below
      have hmat := HM2.out.far ht (fun k hk => by omega)
      have hi := ints_of_own hown
      clear hown hrd ht
      go_wp2
      go_ret2
      exact ⟨_, _, _, _, _, _, _, xs, rfl, hmat.at, hn2, hi, by omega, hwf.out, hao.out, hb⟩

end Go.Proofs.Ythadaohnanpmiaa
