/-
  Moves that can be done at once: the program's atOnce (a map), the reference's l14Once (two loops), and DoAtOnce in both.
-/
import Derived.Test.YthadaohnanpmiaaDoMoves
import Derived.Test.YthadaohnanpmiaaKinds
namespace Go.Proofs.Ythadaohnanpmiaa
open Go.RowKit Go.Maps

def hds (xss : List (List Int)) : List Int := xss.map (·.getD 0 0)
def stepAt (vals : List Int) (out : List Int) (m : List Int) : List Int := out.set (to m) (vals.getD (frm m) 0)
def doAt (xss : List (List Int)) (vals : List Int) : List Int := xss.foldl (stepAt vals) vals
def onceOk (xss : List (List Int)) : Bool := decide (hds xss).Nodup

theorem foldl_stepAt_length (vals : List Int) : ∀ (xss : List (List Int)) (out : List Int), (xss.foldl (stepAt vals) out).length = out.length := by
  intro xss
  induction xss with
  | nil => intro out; rfl
  | cons m xss ih => intro out; rw [List.foldl_cons, ih]; simp [stepAt]
theorem doAt_length (xss : List (List Int)) (vals : List Int) : (doAt xss vals).length = vals.length := foldl_stepAt_length vals xss vals
theorem doAt_snoc (xss : List (List Int)) (m : List Int) (vals : List Int) : doAt (xss ++ [m]) vals = stepAt vals (doAt xss vals) m := by simp [doAt, List.foldl_append]

/-- The different numbers of a list, in the order in which they come. -/
def uniq (xs : List Int) : List Int := xs.foldl addTo []
theorem uniq_snoc (xs : List Int) (x : Int) : uniq (xs ++ [x]) = addTo (uniq xs) x := by simp [uniq, List.foldl_append]
theorem uniq_spec : ∀ xs : List Int, (uniq xs).Nodup ∧ (∀ y, y ∈ uniq xs ↔ y ∈ xs) ∧ (uniq xs).length ≤ xs.length ∧ ((uniq xs).length = xs.length ↔ xs.Nodup) := by
  refine snoc_ind ⟨List.nodup_nil, by simp [uniq], Nat.le_refl _, by simp [uniq]⟩ ?_
  intro xs x ⟨i1, i2, i3, i4⟩
  rw [uniq_snoc]
  have hnd : (xs ++ [x]).Nodup ↔ xs.Nodup ∧ x ∉ xs := by
    rw [List.nodup_append]
    constructor
    · rintro ⟨h1, _, h3⟩
      exact ⟨h1, fun hx => h3 x hx x (by simp) rfl⟩
    · rintro ⟨h1, h2⟩
      refine ⟨h1, by simp, ?_⟩
      intro a ha b hb
      simp at hb
      subst hb
      rintro rfl
      exact h2 ha
  unfold addTo
  split
  · rename_i hx
    refine ⟨i1, fun y => ?_, by simp; omega, ?_⟩
    · rw [i2, List.mem_append, List.mem_singleton]
      constructor
      · exact .inl
      · rintro (h | rfl)
        · exact h
        · exact (i2 _).1 hx
    · rw [hnd]
      constructor
      · intro h; simp at h; omega
      · rintro ⟨_, h⟩; exact absurd ((i2 _).1 hx) h
  · rename_i hx
    refine ⟨?_, fun y => ?_, by simp; omega, ?_⟩
    · rw [List.nodup_append]
      refine ⟨i1, by simp, ?_⟩
      intro a ha b hb
      simp at hb
      subst hb
      rintro rfl
      exact hx ha
    · rw [List.mem_append, List.mem_append, i2]
    · rw [hnd, ← i4]
      simp only [List.length_append, List.length_singleton]
      constructor
      · intro h; exact ⟨by omega, fun hh => hx ((i2 _).2 hh)⟩
      · rintro ⟨h, _⟩; omega

set_option maxHeartbeats 400000 in
theorem atOnce_any (a : Option Addr) (len cap : Nat) (rows : List Hd) (w : World) (hin : MatRd w a len rows) (hs : len ≤ 1099511627776) (hmv : ∀ r ∈ rows, isMove r.xs = true) :
    Calls Try.prog 56 #[.slice a len cap] w fun e w' => e = .returned (.bool (onceOk (rows.map Hd.xs))) ∧ Below w.heap.size w w' := by
  have hmm := @run_makeMap Try.prog
  have HL := Lib.hid hin.length
  go_enter Try.func56, Try.ntmps56
  go_wp2
  go_loopw [9] (fun i wr => ∃ (k : Nat) (D : DataW Unit), k ≤ len ∧ i = .int .i64 k ∧ wr.ownsMap Try.prog 3 (plainElem Try.prog 4) w.heap.size k D ∧ SetIs D (uniq (hds ((rows.take k).map Hd.xs))) ∧ Below w.heap.size w wr) (fun i _ => len - (intOf i).toNat)
  case atStart => exact ⟨0, _, Nat.zero_le _, rfl, World.ownsMap_made _ _ _ _, SetIs.empty, (Below.refl _ _).alloc (Nat.le_refl _) _⟩
  case round =>
    obtain ⟨k, D, hk, rfl, hown, hset, hbr⟩ := hrel
    by_cases hlt : k < len
    · obtain ⟨b, off, ai, ci, xs, rfl, hx, hc, hi⟩ := (hin.later hbr).place hlt
      obtain ⟨i, j, hij, hi1, hj1⟩ := isMove_cases (hmv _ (List.mem_of_getElem? hx))
      simp only at hij
      subst hij
      obtain ⟨bi, oi, rfl, hci, hcj⟩ := two_cells hi
      have HT := Lib.hid (take_succ_of hx)
      have hkey : keyOf Try.prog 3 (.int .i64 i) = some (.int .i64 i) := keyOf_int_mk Try.underlying3 (WalkArith.wf_i64 (by omega))
      have HK := Lib.hid hkey
      clear hx hkey
      go_wp2_with (at_mapUpdate; refine wpList_mapUpdate_own _ rfl _ _ _ 62 rfl 3 4 law_int Try.underlying62 _ w.heap.size k D rfl hown (by unfold maxLen; omega) _ _ _ rfl rfl HK.out (.lit (.bool true)) [] (plainElem_bool Try.underlying4 true) ?_; intro w1 hown1 hgrow1)
      go_roundw
      case rel =>
        refine ⟨k + 1, _, by omega, by go_num, hown1, ?_, hbr.grown hgrow1 hbr.size (fun j hj => by cases hj; exact Nat.le_refl _)⟩
        rw [HT.out, List.map_append, hds, List.map_append]
        simp only [List.map_cons, List.map_nil]
        rw [uniq_snoc]
        exact hset.put i
      case measure => simp [intOf]; omega
    · obtain rfl : k = len := by omega
      have hcount : (((Maps.size D : Nat) : Int) == (k : Int)) = onceOk (rows.map Hd.xs) := by
        have h1 := hset.size
        rw [List.take_of_length_le (by have := HL.out; omega)] at h1
        have h2 := (uniq_spec (hds (rows.map Hd.xs))).2.2.2
        have h3 : (hds (rows.map Hd.xs)).length = k := by simp [hds]; exact HL.out
        rw [h3] at h2
        rw [h1, onceOk, Bool.eq_iff_iff, beq_iff_eq, decide_eq_true_eq, ← h2]
        omega
      have HC := Lib.hid hcount
      clear hset hcount
      go_wp2_with (at_len; refine wpList_len_own _ rfl _ 62 rfl 3 4 Try.underlying62 _ w.heap.size k D rfl hown ?_)
      go_ret
      exact ⟨ret_bool HC.out, hbr⟩

/-! ### the reference -/
def onceAll (xss : List (List Int)) : Bool := movesOk xss && onceOk xss
theorem nodup_snoc {xs : List Int} {x : Int} (h : xs.Nodup) (hx : ∀ y ∈ xs, y ≠ x) : (xs ++ [x]).Nodup := by
  rw [List.nodup_append]
  refine ⟨h, by simp, ?_⟩
  intro a ha b hb
  simp at hb
  subst hb
  exact hx a ha
theorem hds_take (rows : List Hd) (k : Nat) : hds ((rows.take k).map Hd.xs) = (hds (rows.map Hd.xs)).take k := by simp [hds, List.map_take]
theorem hds_get {rows : List Hd} {k : Nat} {a : Option Addr} {c : Nat} {xs : List Int} (h : rows[k]? = some ⟨a, c, xs⟩) : (hds (rows.map Hd.xs))[k]? = some (xs.getD 0 0) := by
  simp [hds, h]
theorem not_nodup_of_eq {xs : List Int} {i k : Nat} {x : Int} (h1 : xs[i]? = some x) (h2 : xs[k]? = some x) (hne : i < k) : ¬ xs.Nodup := by
  intro h
  obtain ⟨hi, hxi⟩ := List.getElem?_eq_some_iff.1 h1
  obtain ⟨hk, hxk⟩ := List.getElem?_eq_some_iff.1 h2
  have := (List.pairwise_iff_getElem.1 h) i k hi hk hne
  exact this (by rw [hxi, hxk])
theorem quiet_trans {w wr : World} {m : Nat} (h : ∃ q, wr = w.drewN q) : ∃ q, wr.drewN m = w.drewN q := by
  obtain ⟨q, rfl⟩ := h
  exact ⟨q + m, World.drewN_drewN ..⟩
theorem MatRd.quiet {w wr : World} {a : Option Addr} {len : Nat} {rows : List Hd} (h : MatRd w a len rows) (hq : ∃ q, wr = w.drewN q) : MatRd wr a len rows := by
  obtain ⟨q, rfl⟩ := hq
  exact ⟨h.length, h.row, fun r hr => ⟨(h.rows r hr).length, (h.rows r hr).row⟩⟩

set_option maxHeartbeats 1000000 in
theorem l14Once_any (a : Option Addr) (len cap : Nat) (rows : List Hd) (w : World) (hin : MatRd w a len rows) (hs : len ≤ 1099511627776) :
    Calls Try.prog 57 #[.slice a len cap] w fun e w' => e = .returned (.bool (onceAll (rows.map Hd.xs))) ∧ ∃ m, w' = w.drewN m := by
  by_cases hok : movesOk (rows.map Hd.xs) = true
  · have hmv := movesOk_rows hok
    have HM := Lib.hid hmv
    have HOK := Lib.hid hok
    have HL := Lib.hid hin.length
    clear hmv hok
    go_enter Try.func57, Try.ntmps57
    go_wp2
    go_loopw [3] (fun i wr => ∃ k : Nat, k ≤ len ∧ i = .int .i64 k ∧ Hid ((∃ m, wr = w.drewN m) ∧ ((hds (rows.map Hd.xs)).take k).Nodup)) (fun i _ => len - (intOf i).toNat)
    case atStart => exact ⟨0, Nat.zero_le _, rfl, Lib.hid ⟨⟨0, rfl⟩, by simp⟩⟩
    case round =>
      obtain ⟨k, hk, rfl, hq⟩ := hrel
      have hinr := hin.quiet hq.out.1
      by_cases hlt : k < len
      · obtain ⟨b, off, ai, ci, xs, rfl, hx, hc, hi⟩ := hinr.place hlt
        obtain ⟨i, j, hij, hi1, hj1⟩ := isMove_cases (HM.out _ (List.mem_of_getElem? hx))
        simp only at hij
        subst hij
        obtain ⟨bi, oi, rfl, hci, hcj⟩ := two_cells hi
        have HX := Lib.hid (hds_get hx)
        have HT := Lib.hid (take_succ_of (hds_get hx))
        clear hx
        go_wp2_with fail
        refine (l14Ok_any _ len cap rows wr hinr hs).mono ?_
        rw [HOK.out]
        rintro e w1 ⟨rfl, rfl⟩
        obtain ⟨wo, hwo⟩ : ∃ wo : World, wo = wr := ⟨_, rfl⟩
        subst hwo
        go_wp2
        go_loopw [4] (fun q wx => ∃ t : Nat, t ≤ k ∧ q = .int .i64 t ∧ Hid ((∃ m, wx = w.drewN m) ∧ ∀ y ∈ (hds (rows.map Hd.xs)).take t, y ≠ (i : Int))) (fun q _ => k - (intOf q).toNat)
        case atStart => exact ⟨0, Nat.zero_le _, rfl, Lib.hid ⟨hq.out.1, by simp⟩⟩
        case round =>
          obtain ⟨t, ht, rfl, hq2⟩ := hrel
          have hin2 := hin.quiet hq2.out.1
          clear hc hci hcj hinr hi
          by_cases hlt2 : t < k
          · obtain ⟨b1, off1, ai1, ci1, xs1, hb1, hx1, hc1, hii1⟩ := hin2.place hlt
            obtain ⟨b2, off2, ai2, ci2, xs2, hb2, hx2, hc2, hii2⟩ := hin2.place (show t < len by omega)
            simp only [Option.some.injEq, Addr.mk.injEq, and_true] at hb1 hb2
            obtain ⟨rfl, rfl⟩ := hb1
            obtain ⟨rfl, rfl⟩ := hb2
            obtain ⟨i', j', hij', hi1', hj1'⟩ := isMove_cases (HM.out _ (List.mem_of_getElem? hx1))
            obtain ⟨i2, j2, hij2, hi2, hj2⟩ := isMove_cases (HM.out _ (List.mem_of_getElem? hx2))
            simp only at hij' hij2
            subst hij' hij2
            have hii : i' = i := by
              have h1 := hds_get hx1
              rw [HX.out] at h1
              have h2 := Option.some.inj h1
              simp at h2
              omega
            subst hii
            obtain ⟨bi1, oi1, rfl, hci1, hcj1⟩ := two_cells hii1
            obtain ⟨bi2, oi2, rfl, hci2, hcj2⟩ := two_cells hii2
            have HX2 := Lib.hid (hds_get hx2)
            have HT2 := Lib.hid (take_succ_of (hds_get hx2))
            clear hx1 hx2
            by_cases he : i' = i2
            · subst he
              have hbe : ((i' : Int) == (i' : Int)) = true := by simp
              have hbad : onceAll (rows.map Hd.xs) = false := by
                rw [onceAll, HOK.out, Bool.true_and, onceOk, decide_eq_false_iff_not]
                exact not_nodup_of_eq HX2.out HX.out hlt2
              have HB := Lib.hid hbad
              clear hbad
              go_wp2
              go_quiet (fail)
              go_wp2
              go_ret
              exact ⟨ret_bool HB.out.symm, quiet_trans hq2.out.1⟩
            · have hbe : ((i' : Int) == (i2 : Int)) = false := by simp; omega
              have HE := Lib.hid he
              clear he
              go_wp2
              go_quiet (fail)
              go_wp2
              go_roundw
              case rel =>
                refine ⟨t + 1, by omega, by go_num, Lib.hid ⟨quiet_trans hq2.out.1, ?_⟩⟩
                rw [HT2.out]
                intro y hy
                rcases List.mem_append.1 hy with hy | hy
                · exact hq2.out.2 y hy
                · simp at hy
                  subst hy
                  intro h
                  exact HE.out (by omega)
              case measure => simp [intOf]; omega
          · obtain rfl : t = k := by omega
            go_wp2
            go_roundw
            case rel =>
              refine ⟨t + 1, by omega, by go_num, Lib.hid ⟨hq2.out.1, ?_⟩⟩
              rw [HT.out]
              exact nodup_snoc hq.out.2 hq2.out.2
            case measure => simp [intOf]; omega
      · obtain rfl : k = len := by omega
        have hall : onceAll (rows.map Hd.xs) = true := by
          have h1 := hq.out.2
          rw [List.take_of_length_le (by simp [hds]; have := HL.out; omega)] at h1
          rw [onceAll, HOK.out, Bool.true_and, onceOk, decide_eq_true_eq]
          exact h1
        have HA := Lib.hid hall
        clear hall
        go_wp2_with fail
        refine (l14Ok_any _ k cap rows wr hinr hs).mono ?_
        rw [HOK.out]
        rintro e w1 ⟨rfl, rfl⟩
        go_wp2
        go_ret
        exact ⟨ret_bool HA.out.symm, hq.out.1⟩
  · have hok' : movesOk (rows.map Hd.xs) = false := by simpa using hok
    have hno : onceAll (rows.map Hd.xs) = false := by rw [onceAll, hok']; rfl
    rw [hno]
    have HOK := Lib.hid hok'
    clear hok hok' hno
    go_enter Try.func57, Try.ntmps57
    go_wp2
    refine wp_loop_rounds 1 ?_
    rw [rounds_succ]
    by_cases h0 : 0 < len
    · go_wp2_with fail
      refine (l14Ok_any _ len cap rows w hin hs).mono ?_
      rw [HOK.out]
      rintro e w1 ⟨rfl, rfl⟩
      go_wp2_with fail
      refine (l14Ok_any _ len cap rows w hin hs).mono ?_
      rw [HOK.out]
      rintro e w1 ⟨rfl, rfl⟩
      go_wp2
      go_ret
      exact ⟨rfl, 0, rfl⟩
    · have hd : decide ((0 : Int) < (len : Int)) = false := by simp; omega
      go_wp2_with fail
      refine (l14Ok_any _ len cap rows w hin hs).mono ?_
      rw [HOK.out]
      rintro e w1 ⟨rfl, rfl⟩
      go_wp2
      go_ret
      exact ⟨rfl, 0, rfl⟩

end Go.Proofs.Ythadaohnanpmiaa
