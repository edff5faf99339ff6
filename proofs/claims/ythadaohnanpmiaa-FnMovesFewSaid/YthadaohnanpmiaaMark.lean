/-
  Copies of slices of slices (toIntSS), and the marks by which the laws look for shared memory: markIntS writes running numbers into a slice, heldIntS looks whether they are still there; the same for slices of slices.
-/
import Derived.Test.YthadaohnanpmiaaMat
namespace Go.Proofs.Ythadaohnanpmiaa
open Go.RowKit

/-- The numbers k, k+1, .. (n of them). -/
def run (k : Int) (n : Nat) : List Int := (List.range n).map (fun i : Nat => k + i)
theorem run_length (k : Int) (n : Nat) : (run k n).length = n := by simp [run]
theorem run_succ (k : Int) (n : Nat) : run k (n + 1) = run k n ++ [k + n] := by simp [run, List.range_succ]
theorem run_get (k : Int) (n i : Nat) (h : i < n) : (run k n)[i]? = some (k + i) := by simp [run, h]

theorem mark_next {vs : List Value} {k : Int} {j n : Nat} (hj : j < n) (hn : vs.length = n) :
    ((run k j).map (Value.int .i64) ++ vs.drop j).set j (.int .i64 (k + j)) = (run k (j + 1)).map (Value.int .i64) ++ vs.drop (j + 1) := by
  have hl : ((run k j).map (Value.int .i64)).length = j := by simp [run_length]
  rw [List.set_append_right _ _ (by omega), hl, Nat.sub_self, run_succ, List.map_append, List.append_assoc]
  obtain ⟨u, hu⟩ : ∃ u, vs.drop j = u :: vs.drop (j + 1) := ⟨_, List.drop_eq_getElem_cons (show j < vs.length by omega)⟩
  rw [hu]
  rfl

set_option maxHeartbeats 400000 in
/-- markIntS on a slice that is owned: it holds running numbers, nothing else has changed. -/
theorem markIntS_any (lo : Nat) (a : Option Addr) (len cap : Nat) (vs : List Value) (k : Int) (w : World) (hown : w.ownsRow lo 3 1 (.slice a len cap) len vs) (hs : len ≤ 1099511627776) (hk0 : 0 ≤ k) (hk : k ≤ 1099511627776) :
    Calls Try.prog 31 #[.slice a len cap, .int .i64 k] w fun e w' => e = .returned (.int .i64 (k + len)) ∧ w'.ownsRow lo 3 1 (.slice a len cap) len ((run k len).map (Value.int .i64)) ∧ w.grownBy w' (Value.slice a len cap).ownBlock := by
  rcases hown.2 with ⟨hv, hl0⟩ | ⟨g, cap', cur, hv, _⟩
  · simp only [Value.slice.injEq] at hv
    obtain ⟨rfl, rfl, rfl⟩ := hv
    go_enter Try.func31, Try.ntmps31
    go_wp2
    refine wp_loop_rounds 1 ?_
    rw [rounds_succ]
    go_wp2
    go_ret
    exact ⟨ret_int (by simp), World.ownsRow_nil w lo 3 1, World.grownBy.refl _ _⟩
  · simp only [Value.slice.injEq] at hv
    obtain ⟨rfl, _, rfl⟩ := hv
    have hvl : vs.length = len := by simpa using hown.1
    go_enter Try.func31, Try.ntmps31
    go_wp2
    go_loopw [1, 5] (fun q i wr => ∃ j : Nat, j ≤ len ∧ i = .int .i64 j ∧ q = .int .i64 (k + j) ∧ wr.ownsRow lo 3 1 (.slice (some ⟨g, 0, none⟩) len cap) len ((run k j).map (Value.int .i64) ++ vs.drop j) ∧ w.grownBy wr (some g)) (fun _ i _ => len - (intOf i).toNat)
    case atStart => exact ⟨0, Nat.zero_le _, rfl, by simp, by simpa [run] using hown, World.grownBy.refl _ _⟩
    case round =>
      obtain ⟨j, hj, rfl, rfl, hownr, hg⟩ := hrel
      by_cases hlt : j < len
      · have hfz := hownr.frozenAt j
        have hcl : ∃ u, wr.cell? ⟨g, j, none⟩ = some u := by
          rw [hownr.cellAt j (by omega)]
          exact ⟨_, List.getElem?_eq_getElem (by rw [List.length_append, List.length_map, run_length, List.length_drop]; omega)⟩
        obtain ⟨u, hcu⟩ := hcl
        have HO := Lib.hid hownr
        have HV := Lib.hid hvl
        clear hownr hvl hown
        go_wp2
        go_roundw
        case rel =>
          refine ⟨j + 1, by omega, by go_num, by congr 1; omega, ?_, hg.trans (HO.out.stored j _).2⟩
          rw [← mark_next hlt HV.out]
          have := (HO.out.stored j (.int .i64 (k + j))).1
          simpa using this
        case measure => simp [intOf]; omega
      · obtain rfl : j = len := by omega
        have HO := Lib.hid hownr
        have HV := Lib.hid hvl
        clear hownr hvl hown
        go_wp2
        go_ret
        refine ⟨rfl, ?_, hg⟩
        have := HO.out
        rw [List.drop_of_length_le (by have := HV.out; omega), List.append_nil] at this
        exact this

set_option maxHeartbeats 400000 in
theorem heldIntS_any (a : Option Addr) (len cap : Nat) (k : Int) (w : World) (hin : IntsRd w a len (run k len)) (hs : len ≤ 1099511627776) (hk0 : 0 ≤ k) (hk : k ≤ 1099511627776) :
    Calls Try.prog 32 #[.slice a len cap, .int .i64 k] w fun e w' => e = .returned (.int .i64 (k + len)) ∧ w = w' := by
  go_enter Try.func32, Try.ntmps32
  go_wp2
  go_loop [1, 5] (fun q i => ∃ j : Nat, j ≤ len ∧ i = .int .i64 j ∧ q = .int .i64 (k + j)) (fun _ i => len - (intOf i).toNat)
  case atStart => exact ⟨0, Nat.zero_le _, rfl, by simp⟩
  case round =>
    obtain ⟨j, hj, rfl, rfl⟩ := hrel
    by_cases hlt : j < len
    · obtain ⟨b, off, x, rfl, hx, hc⟩ := hin.place hlt
      rw [run_get _ _ _ hlt] at hx
      obtain rfl := Option.some.inj hx
      have hne : (k + (j : Int) != k + (j : Int)) = false := by simp
      clear hx
      go_wp2
      go_round
      case rel => exact ⟨j + 1, by omega, by go_num, by congr 1; omega⟩
      case measure => simp [intOf]; omega
    · obtain rfl : j = len := by omega
      go_wp2
      go_ret
      exact ⟨rfl, rfl⟩

/-! ### slices of slices -/
theorem info_ints : (Try.prog.info? 22).map (fun i => (i.zero, i.size, i.bytes)) = some (some (.slice none 0 0), 1, 24) := by kernel_rfl
theorem und_mat : Try.prog.underlying 31 = some (.slice 22) := by kernel_rfl

def nilHd : Hd := ⟨none, 0, []⟩
theorem nils_val (n : Nat) : (List.replicate n nilHd).map Hd.val = List.replicate n (.slice none 0 0) := by simp [nilHd, Hd.val]
theorem nils_blocks (n : Nat) : (List.replicate n nilHd).filterMap (·.val.ownBlock) = [] := by
  rw [List.filterMap_eq_nil_iff]
  intro r hr
  rw [(List.mem_replicate.1 hr).2]
  rfl

/-- A row of the call's own is put in the place of the first nil row. -/
theorem mat_put {w : World} {lo hi hi' g len : Nat} {done : List Hd} {m : Nat} {r : Hd} (h : MatOwn w lo hi (some ⟨g, 0, none⟩) len len (done ++ List.replicate (m + 1) nilHd))
    (hr : w.ownsRow lo 3 1 r.val r.xs.length (r.xs.map (Value.int .i64))) (hhi : hi ≤ hi') (hgl : g < hi') (hrhi : ∀ k, r.val.ownBlock = some k → hi ≤ k ∧ k < hi') :
    MatOwn (w.setCell ⟨g, done.length, none⟩ r.val) lo hi' (some ⟨g, 0, none⟩) len len ((done ++ [r]) ++ List.replicate m nilHd) := by
  have hset : ((done ++ List.replicate (m + 1) nilHd).map Hd.val).set done.length r.val = ((done ++ [r]) ++ List.replicate m nilHd).map Hd.val := by
    rw [List.map_append, List.set_append_right _ _ (by simp), List.length_map, Nat.sub_self, List.replicate_succ]
    simp
  have hgh := h.ownHi g rfl
  have hturn : w.grownBy (w.setCell ⟨g, done.length, none⟩ r.val) (some g) := (h.own.stored done.length r.val).2
  have hmem : ∀ x ∈ (done ++ [r]) ++ List.replicate m nilHd, x ∈ done ++ List.replicate (m + 1) nilHd ∨ x = r := by
    intro x hx
    simp only [List.mem_append, List.mem_singleton] at hx ⊢
    rcases hx with (hx | hx) | hx
    · exact .inl (.inl hx)
    · exact .inr hx
    · exact .inl (.inr (by rw [List.replicate_succ]; exact List.mem_cons_of_mem _ hx))
  have hne : ∀ x : Hd, (w.ownsRow lo 3 1 x.val x.xs.length (x.xs.map (Value.int .i64))) → ∀ k, x.val.ownBlock = some k → ¬ k = g := by
    intro x hx k hk hkg
    subst hkg
    rcases hx.2 with ⟨hv, _⟩ | ⟨g', cap', cur', hv, _, hgg, _⟩
    · rw [hv] at hk; cases hk
    · rw [hv] at hk
      simp only [Value.ownBlock, Option.some.injEq] at hk
      subst hk
      rcases h.own.2 with ⟨hv2, _⟩ | ⟨g2, cap2, cur2, hv2, _, hgg2, _⟩
      · simp at hv2
      · simp only [Value.slice.injEq, Option.some.injEq, Addr.mk.injEq, and_true] at hv2
        obtain ⟨rfl, _⟩ := hv2
        rw [hgg] at hgg2
        simp at hgg2
  refine ⟨by rw [← hset]; exact (h.own.stored done.length r.val).1, fun k hk => by have := h.ownHi k hk; omega, fun x hx => ?_, fun x hx k hk => ?_, ?_⟩
  · rcases hmem x hx with hx | rfl
    · exact own_turned (S := fun k => k = g) (h.rows x hx) (turned_of_grown hturn (fun k hk => by cases hk; rfl)) (fun k hk => hne x (h.rows x hx) k hk)
    · exact own_turned (S := fun k => k = g) hr (turned_of_grown hturn (fun k hk => by cases hk; rfl)) (fun k hk => hne x hr k hk)
  · rcases hmem x hx with hx | rfl
    · have := h.rowsHi x hx k hk; omega
    · exact (hrhi k hk).2
  · have hap := h.apart
    rw [List.filterMap_append, nils_blocks, List.append_nil] at hap
    rw [List.filterMap_append, nils_blocks, List.append_nil, List.filterMap_append, List.nodup_append]
    refine ⟨hap, ?_, ?_⟩
    · cases hb : r.val.ownBlock <;> simp [hb]
    · intro x hx y hy
      obtain ⟨z, hz, hzx⟩ := List.mem_filterMap.1 hx
      obtain ⟨z', hz', hzy⟩ := List.mem_filterMap.1 hy
      simp at hz'
      subst hz'
      have h1 := h.rowsHi z (by simp [hz]) x hzx
      have h2 := (hrhi y hzy).1
      omega

/-- The call returned a new slice of slices that reads so; nothing that was there has changed. -/
def RetMat (w : World) (xss : List (List Int)) (n : Nat) (e : Ending) (w' : World) : Prop :=
  ∃ a cap rows, e = .returned (.slice a n cap) ∧ MatOwn w' w.heap.size w'.heap.size a n cap rows ∧ rows.map Hd.xs = xss ∧ Below w.heap.size w w'

set_option maxHeartbeats 400000 in
theorem toIntSS_any (a : Option Addr) (len cap : Nat) (rows : List Hd) (w : World) (hin : MatRd w a len rows) (hs : len ≤ 1099511627776) (hrl : ∀ r ∈ rows, r.xs.length ≤ 1099511627776) :
    Calls Try.prog 28 #[.slice a len cap] w fun e w' => RetMat w (rows.map Hd.xs) len e w' := by
  obtain ⟨i0, hi, hz0, hz1, hz2⟩ := info_parts info_ints
  go_enter Try.func28, Try.ntmps28
  go_wp2_with (at_make; refine wpList_make_full _ rfl _ _ 31 rfl w.heap.size 22 i0 (.slice none 0 0) 1 und_mat hi hz0 hz1 _ _ _ _ len rfl rfl rfl rfl (by rw [hz2]; omega) (by unfold maxLen; omega) (Nat.le_refl _) ?_; intro w1 hown hg)
  have hb1 : Below w.heap.size w w1 := (Below.refl _ _).grown hg (Nat.le_refl _) (by simp)
  have hlt1 := hown.lt w.heap.size rfl
  rw [Nat.mul_one, show (Value.slice none 0 0).cells = #[Value.slice none 0 0] from rfl, toList_madeCells_one, ← nils_val] at hown
  have hm1 : MatOwn w1 w.heap.size w1.heap.size (some ⟨w.heap.size, 0, none⟩) len len (List.replicate len nilHd) :=
    ⟨hown, fun k hk => (by cases hk; exact hlt1.2), fun r hr => (by rw [(List.mem_replicate.1 hr).2]; exact World.ownsRow_nil _ _ _ _), fun r hr k hk => (by rw [(List.mem_replicate.1 hr).2] at hk; cases hk), (by rw [nils_blocks]; exact List.nodup_nil)⟩
  have HM := Lib.hid hm1
  clear hown hg hlt1 hi hz0 hz1 hz2 hm1
  go_wp2
  go_loopw [4] (fun i wr => ∃ (k : Nat) (done : List Hd), k ≤ len ∧ i = .int .i64 k ∧ Below w.heap.size w wr ∧ Hid (done.length = k ∧ done.map Hd.xs = (rows.take k).map Hd.xs ∧
      MatOwn wr w.heap.size wr.heap.size (some ⟨w.heap.size, 0, none⟩) len len (done ++ List.replicate (len - k) nilHd))) (fun i _ => len - (intOf i).toNat)
  case atStart => exact ⟨0, [], Nat.zero_le _, rfl, hb1, Lib.hid ⟨rfl, rfl, by simpa using HM.out⟩⟩
  case round =>
    obtain ⟨k, done, hk, rfl, hbr, hd⟩ := hrel
    clear HM hb1
    by_cases hlt : k < len
    · obtain ⟨b, off, ai, ci, xs, rfl, hx, hc, hi⟩ := (hin.later hbr).place hlt
      have hxl : xs.length ≤ 1099511627776 := hrl _ (List.mem_of_getElem? hx)
      have HT := Lib.hid (take_succ_of hx)
      clear hx
      go_wp2_with fail
      refine (toIntS_any ai xs.length ci xs wr hi hxl).mono ?_
      rintro e w2 ⟨a2, c2, rfl, hown2, hb2⟩
      have hm2 := hd.out.2.2.below hb2
      obtain ⟨m, hm⟩ : ∃ m, len - k = m + 1 := ⟨len - k - 1, by omega⟩
      rw [hm] at hm2
      have hlt2 := hown2.lt
      have hg2 : w.heap.size < w2.heap.size := by have := hd.out.2.2.ownHi w.heap.size rfl; have := hb2.size; omega
      have hput := mat_put (r := ⟨a2, c2, xs⟩) (hi' := w2.heap.size) hm2 (own_lower hown2 (fun j hj => by have := (hlt2 j hj).1; have := hbr.size; omega)) hb2.size hg2 (fun j hj => hlt2 j hj)
      have hdl := hd.out.1
      have hdx := hd.out.2.1
      have hfz := hm2.own.frozenAt k
      have hcl : ∃ u, w2.cell? ⟨w.heap.size, k, none⟩ = some u := by
        rw [hm2.own.cellAt k (by omega)]
        exact ⟨_, List.getElem?_eq_getElem (by simp; omega)⟩
      obtain ⟨u, hcu⟩ := hcl
      have hbr2 : Below w.heap.size w w2 := hbr.trans (hb2.mono hbr.size)
      have HP := Lib.hid hput
      have HD := Lib.hid (And.intro hdl hdx)
      have HMm := Lib.hid hm
      clear hput hdl hdx hm hd hm2 hown2 hlt2 hb2 hbr
      go_wp2
      go_roundw
      case rel =>
        refine ⟨k + 1, done ++ [⟨a2, c2, xs⟩], by omega, by go_num, hbr2.setCell (Nat.le_refl _) _, Lib.hid ⟨by simp [HD.out.1], ?_, ?_⟩⟩
        · rw [HT.out, List.map_append, List.map_append, HD.out.2]
          rfl
        · have h1 := HP.out
          rw [HD.out.1] at h1
          rw [show len - (k + 1) = m by have := HMm.out; omega]
          simpa [Hd.val] using h1
      case measure => simp [intOf]; omega
    · obtain rfl : k = len := by omega
      have HL := Lib.hid hin.length
      go_wp2
      go_ret
      obtain ⟨h1, h2, h3⟩ := hd.out
      rw [List.take_of_length_le (by have := HL.out; omega)] at h2
      rw [Nat.sub_self, List.replicate_zero, List.append_nil] at h3
      exact ⟨_, _, done, rfl, h3, h2, hbr⟩

/-- Running numbers, cut into rows. -/
def runs : Int → List Nat → List (List Int)
  | _, [] => []
  | k, n :: ns => run k n :: runs (k + n) ns
theorem runs_get : ∀ (ns : List Nat) (k : Int) (i n : Nat), ns[i]? = some n → (runs k ns)[i]? = some (run (k + ((ns.take i).sum : Nat)) n)
  | [], _, _, _, h => by simp at h
  | m :: ns, k, 0, n, h => by simp at h; subst h; simp [runs]
  | m :: ns, k, i + 1, n, h => by
    have := runs_get ns (k + m) i n (by simpa using h)
    simp only [runs, List.getElem?_cons_succ, this, List.take_succ_cons, List.sum_cons, Int.natCast_add, Int.add_assoc]
theorem runs_snoc : ∀ (ns : List Nat) (k : Int) (n : Nat), runs k (ns ++ [n]) = runs k ns ++ [run (k + (ns.sum : Nat)) n]
  | [], k, n => by simp [runs]
  | m :: ns, k, n => by simp [runs, runs_snoc ns (k + m) n, Int.add_assoc]

/-- The blocks of a list of rows with one taken out. -/
theorem mat_mark {w w' : World} {lo hi : Nat} {a : Option Addr} {len cap : Nat} {A B : List Hd} {r : Hd} {ys : List Int} (h : MatOwn w lo hi a len cap (A ++ r :: B)) (hl : ys.length = r.xs.length)
    (hr : w'.ownsRow lo 3 1 r.val r.xs.length (ys.map (Value.int .i64))) (hg : w.grownBy w' r.val.ownBlock) : MatOwn w' lo hi a len cap (A ++ ⟨r.a, r.cap, ys⟩ :: B) := by
  have hv : Hd.val ⟨r.a, r.cap, ys⟩ = r.val := by simp [Hd.val, hl]
  have hvals : (A ++ ⟨r.a, r.cap, ys⟩ :: B).map Hd.val = (A ++ r :: B).map Hd.val := by simp [hv]
  have hap := h.apart
  rw [List.filterMap_append, List.filterMap_cons] at hap
  have hne : ∀ x ∈ A ++ B, ∀ k, x.val.ownBlock = some k → ¬ r.val.ownBlock = some k := by
    intro x hx k hk hrk
    rw [hrk] at hap
    simp only at hap
    rw [List.nodup_append] at hap
    obtain ⟨_, h2, h3⟩ := hap
    rw [List.nodup_cons] at h2
    rcases List.mem_append.1 hx with hx | hx
    · exact h3 k (List.mem_filterMap.2 ⟨x, hx, hk⟩) k (by simp) rfl
    · exact h2.1 (List.mem_filterMap.2 ⟨x, hx, hk⟩)
  have hrm : r ∈ A ++ r :: B := by simp
  have hout : ∀ k, (Value.slice a len cap).ownBlock = some k → ¬ r.val.ownBlock = some k := by
    intro k hk hrk
    have hrow := h.rows r hrm
    rcases hrow.2 with ⟨hv, _⟩ | ⟨g', cap', cur', hv, _, hgg, _⟩
    · rw [hv] at hrk; cases hrk
    · rw [hv] at hrk
      simp only [Value.ownBlock, Option.some.injEq] at hrk
      subst hrk
      rcases h.own.2 with ⟨hv2, _⟩ | ⟨g2, cap2, cur2, hv2, _, hgg2, _⟩
      · rw [hv2] at hk; cases hk
      · rw [hv2] at hk
        simp only [Value.ownBlock, Option.some.injEq] at hk
        subst hk
        rw [hgg] at hgg2
        simp at hgg2
  have hmem : ∀ x ∈ A ++ (⟨r.a, r.cap, ys⟩ : Hd) :: B, x ∈ A ++ B ∨ x = ⟨r.a, r.cap, ys⟩ := by
    intro x hx
    simp only [List.mem_append, List.mem_cons] at hx ⊢
    rcases hx with hx | hx | hx
    · exact .inl (.inl hx)
    · exact .inr hx
    · exact .inl (.inr hx)
  have hin : ∀ x ∈ A ++ B, x ∈ A ++ r :: B := by
    intro x hx
    simp only [List.mem_append, List.mem_cons] at hx ⊢
    rcases hx with hx | hx
    · exact .inl hx
    · exact .inr (.inr hx)
  have ht := turned_of_grown hg (S := fun k => r.val.ownBlock = some k) (fun k hk => hk)
  refine ⟨by rw [hvals]; exact own_turned h.own ht hout, h.ownHi, fun x hx => ?_, fun x hx k hk => ?_, ?_⟩
  · rcases hmem x hx with hx | rfl
    · exact own_turned (h.rows x (hin x hx)) ht (hne x hx)
    · rw [hv]
      simp only [hl]
      exact hr
  · rcases hmem x hx with hx | rfl
    · exact h.rowsHi x (hin x hx) k hk
    · rw [hv] at hk; exact h.rowsHi r hrm k hk
  · have : (A ++ (⟨r.a, r.cap, ys⟩ : Hd) :: B).filterMap (·.val.ownBlock) = (A ++ r :: B).filterMap (·.val.ownBlock) := by
      simp only [List.filterMap_append, List.filterMap_cons, hv]
    rw [this]
    exact h.apart

/-- The rows bear running numbers from k on. -/
def Marked (w : World) (lo hi : Nat) (a : Option Addr) (len cap : Nat) (rows : List Hd) (k : Int) (e : Ending) (w' : World) : Prop :=
  ∃ rows', e = .returned (.int .i64 (k + (total rows : Nat))) ∧ MatOwn w' lo hi a len cap rows' ∧ rows'.map Hd.xs = runs k (rows.map (·.xs.length)) ∧ Turned (fun b => lo ≤ b ∧ b < hi) w w'

set_option maxHeartbeats 400000 in
theorem markIntSS_any (lo hi : Nat) (a : Option Addr) (len cap : Nat) (rows : List Hd) (k : Int) (w : World) (hin : MatOwn w lo hi a len cap rows) (hs : len ≤ 1099511627776) (hk0 : 0 ≤ k) (htot : k + (total rows : Nat) ≤ 1099511627776) :
    Calls Try.prog 30 #[.slice a len cap, .int .i64 k] w fun e w' => Marked w lo hi a len cap rows k e w' := by
  have HL := Lib.hid hin.at.length
  have HIN := Lib.hid hin
  clear hin
  go_enter Try.func30, Try.ntmps30
  go_wp2
  go_loopw [1, 5] (fun q i wr => ∃ (j : Nat) (done : List Hd), j ≤ len ∧ i = .int .i64 j ∧ q = .int .i64 (k + (total (rows.take j) : Nat)) ∧ Hid (MatOwn wr lo hi a len cap (done ++ rows.drop j) ∧ done.length = j ∧ done.map Hd.xs = runs k ((rows.take j).map (·.xs.length)) ∧ Turned (fun b => lo ≤ b ∧ b < hi) w wr)) (fun _ i _ => len - (intOf i).toNat)
  case atStart => exact ⟨0, [], Nat.zero_le _, rfl, by simp [total], Lib.hid ⟨by simpa using HIN.out, rfl, rfl, Turned.refl _ _⟩⟩
  case round =>
    obtain ⟨j, done, hj, rfl, rfl, hd⟩ := hrel
    have hat := hd.out.1.at.toMatRd
    by_cases hlt : j < len
    · obtain ⟨b, off, ai, ci, xs, rfl, hx, hc, hi⟩ := hat.place hlt
      have hx' : rows[j]? = some ⟨ai, ci, xs⟩ := by
        rw [List.getElem?_append_right (by have := hd.out.2.1; omega), hd.out.2.1, Nat.sub_self, List.getElem?_drop, Nat.add_zero] at hx
        exact hx
      have hdrop : rows.drop j = ⟨ai, ci, xs⟩ :: rows.drop (j + 1) := by
        obtain ⟨hjl, hje⟩ := List.getElem?_eq_some_iff.1 hx'
        rw [List.drop_eq_getElem_cons hjl, hje]
      have htk := take_succ_of hx'
      have htt := total_take rows (j + 1)
      rw [htk, total_snoc] at htt
      simp only at htt
      have hmat := hd.out.1
      rw [hdrop] at hmat
      have hown := hmat.rows ⟨ai, ci, xs⟩ (by simp)
      have HMt := Lib.hid hmat
      have HK := Lib.hid htk
      clear hx hx' hdrop htk hmat hat hi
      go_wp2_with fail
      refine (markIntS_any lo ai xs.length ci _ (k + (total (rows.take j) : Nat)) wr hown (by omega) (by omega) (by omega)).mono ?_
      rintro e w2 ⟨rfl, hown2, hg2⟩
      have hm2 := mat_mark (ys := run (k + (total (rows.take j) : Nat)) xs.length) HMt.out (run_length _ _) hown2 hg2
      have hrb := HMt.out.rowsHi ⟨ai, ci, xs⟩ (by simp)
      have hrl := hown.lt
      have ht2 := turned_of_grown hg2 (S := fun b => lo ≤ b ∧ b < hi) (fun q hq => ⟨(hrl q hq).1, hrb q hq⟩)
      have HM2 := Lib.hid hm2
      clear hm2 hown hown2 hg2 hrb hrl
      go_wp2
      go_roundw
      case rel =>
        refine ⟨j + 1, done ++ [⟨ai, ci, run (k + (total (rows.take j) : Nat)) xs.length⟩], by omega, by go_num, ?_, Lib.hid ⟨?_, by simp [hd.out.2.1], ?_, hd.out.2.2.2.trans ht2⟩⟩
        · rw [HK.out, total_snoc]; congr 1; simp only [Int.natCast_add]; omega
        · simpa using HM2.out
        · rw [HK.out, List.map_append, List.map_append, hd.out.2.2.1]
          simp only [List.map_cons, List.map_nil, runs_snoc, total]
      case measure => simp [intOf]; omega
    · obtain rfl : j = len := by omega
      go_wp2
      go_ret
      obtain ⟨h1, h2, h3, h4⟩ := hd.out
      rw [List.drop_of_length_le (by have := HL.out; omega), List.append_nil] at h1
      rw [List.take_of_length_le (by have := HL.out; omega)] at h3
      exact ⟨done, ret_int (by rw [List.take_of_length_le (by have := HL.out; omega)]), h1, h3, h4⟩

set_option maxHeartbeats 400000 in
theorem heldIntSS_any (a : Option Addr) (len cap : Nat) (rows : List Hd) (ns : List Nat) (k : Int) (w : World) (hin : MatRd w a len rows) (hrun : rows.map Hd.xs = runs k ns) (hns : rows.map (·.xs.length) = ns) (hs : len ≤ 1099511627776) (hk0 : 0 ≤ k) (htot : k + (total rows : Nat) ≤ 1099511627776) :
    Calls Try.prog 42 #[.slice a len cap, .int .i64 k] w fun e w' => e = .returned (.int .i64 (k + (total rows : Nat))) ∧ w = w' := by
  have HL := Lib.hid hin.length
  have HR := Lib.hid (And.intro hrun hns)
  clear hrun hns
  go_enter Try.func42, Try.ntmps42
  go_wp2
  go_loop [1, 5] (fun q i => ∃ j : Nat, j ≤ len ∧ i = .int .i64 j ∧ q = .int .i64 (k + (total (rows.take j) : Nat))) (fun _ i => len - (intOf i).toNat)
  case atStart => exact ⟨0, Nat.zero_le _, rfl, by simp [total]⟩
  case round =>
    obtain ⟨j, hj, rfl, rfl⟩ := hrel
    by_cases hlt : j < len
    · obtain ⟨b, off, ai, ci, xs, rfl, hx, hc, hi⟩ := hin.place hlt
      have htk := take_succ_of hx
      have htt := total_take rows (j + 1)
      rw [htk, total_snoc] at htt
      simp only at htt
      have hxs : xs = run (k + (total (rows.take j) : Nat)) xs.length := by
        have h1 : (rows.map Hd.xs)[j]? = some xs := by rw [List.getElem?_map, hx]; rfl
        have h2 : ns[j]? = some xs.length := by rw [← HR.out.2, List.getElem?_map, hx]; rfl
        have h3 := runs_get ns k j _ h2
        rw [HR.out.1, h3] at h1
        have h4 := Option.some.inj h1
        rw [← HR.out.2, ← List.map_take] at h4
        exact h4.symm
      have hi2 : IntsRd w ai xs.length (run (k + (total (rows.take j) : Nat)) xs.length) := by rw [← hxs]; exact hi
      have HK := Lib.hid htk
      have HI := Lib.hid hi2
      clear hx htk hxs hi hi2
      go_wp2_with fail
      refine (heldIntS_any ai xs.length ci (k + (total (rows.take j) : Nat)) w HI.out (by omega) (by omega) (by omega)).mono ?_
      rintro e w2 ⟨rfl, rfl⟩
      go_wp2
      go_round
      case rel =>
        refine ⟨j + 1, by omega, by go_num, ?_⟩
        rw [HK.out, total_snoc]; congr 1; simp only [Int.natCast_add]; omega
      case measure => simp [intOf]; omega
    · obtain rfl : j = len := by omega
      go_wp2
      go_ret
      exact ⟨ret_int (by rw [List.take_of_length_le (by have := HL.out; omega)]), rfl⟩

end Go.Proofs.Ythadaohnanpmiaa
