/-
  The walk of the law FnDoMoves: moves one behind the other can be done in two parts.
-/
import Derived.Test.YthadaohnanpmiaaDoMoves
import Derived.Test.YthadaohnanpmiaaDraw
import Derived.Test.YthadaohnanpmiaaNumbers
namespace Go.Proofs.Ythadaohnanpmiaa
open Go.RowKit

set_option maxHeartbeats 400000 in
theorem wwInts_true (a a' : Option Addr) (len cap cap' : Nat) (xs : List Int) (w : World) (hin : IntsRd w a len xs) (hin' : IntsRd w a' len xs) (hs : len ≤ 1099511627776) :
    Calls Try.prog 26 #[.slice a len cap, .slice a' len cap'] w fun e w' => e = .returned (.bool true) ∧ ∃ m, w' = w.drewN m := by
  have heq : ((len : Int) == (len : Int)) = true := by simp
  go_enter Try.func26, Try.ntmps26
  go_wp2
  go_loopw [11] (fun i wr => ∃ k m : Nat, k ≤ len ∧ i = .int .i64 k ∧ wr = w.drewN m) (fun i _ => len - (intOf i).toNat)
  case atStart => exact ⟨0, 0, Nat.zero_le _, rfl, rfl⟩
  case round =>
    obtain ⟨k, m, hk, rfl, rfl⟩ := hrel
    by_cases hlt : k < len
    · obtain ⟨b, off, x, rfl, hx, hc⟩ := hin.place hlt
      obtain ⟨b', off', x', rfl, hx', hc'⟩ := hin'.place hlt
      obtain rfl : x' = x := by rw [hx] at hx'; exact (Option.some.inj hx').symm
      clear hx hx' heq
      have hne : (x' != x') = false := by simp
      go_wp2
      go_quiet (fail)
      go_wp2
      go_roundw
      case rel => exact ⟨k + 1, m + nq, by omega, by go_num, rfl⟩
      case measure => simp [intOf]; omega
    · go_wp2
      go_ret
      exact ⟨rfl, _, rfl⟩

/-- 'list[:k]'. -/
theorem MatRd.pre {w : World} {a : Option Addr} {len : Nat} {rows : List Hd} (h : MatRd w a len rows) {k : Nat} (hk : k ≤ len) : MatRd w a k (rows.take k) :=
  ⟨by have := h.length; simp; omega, by rw [List.map_take]; exact h.row.pre k, fun r hr => h.rows r (List.mem_of_mem_take hr)⟩
/-- 'list[k:]'. -/
theorem MatRd.from {w : World} {b off : Nat} {len : Nat} {rows : List Hd} (h : MatRd w (some ⟨b, off, none⟩) len rows) (k : Nat) : MatRd w (some ⟨b, off + k, none⟩) (len - k) (rows.drop k) := by
  refine ⟨by have := h.length; simp; omega, ?_, fun r hr => h.rows r (List.mem_of_mem_drop hr)⟩
  rw [List.map_drop]
  have h1 := h.row.cut k (rows.length + k + 1) (by simp; omega)
  rw [if_neg (by omega)] at h1
  exact h1

theorem movesFit_sub {xss yss : List (List Int)} {n : Nat} (h : movesFit xss n = true) (hl : yss.length ≤ xss.length) (hm : ∀ m ∈ yss, m ∈ xss) : movesFit yss n = true := by
  simp only [movesFit, movesOk, Bool.and_eq_true, decide_eq_true_eq, List.all_eq_true] at h ⊢
  exact ⟨⟨by omega, fun m hy => h.1.2 m (hm m hy)⟩, fun m hy => h.2 m (hm m hy)⟩
theorem doSeq_append (xss yss : List (List Int)) (vals : List Int) : doSeq (xss ++ yss) vals = doSeq yss (doSeq xss vals) := by simp [doSeq, List.foldl_append]

theorem drawDoMoves_any (w : World) (a : Option Addr) (len cap : Nat) (bs : List Int) (hin : BytesRd w a len bs) (hcap : len ≤ cap) :
    Calls Try.prog 23 #[.slice a len cap] w fun e w' => DrewBoth w e w' := by
  go_enter Try.func23, Try.ntmps23
  go_wp2_with fail
  refine (l14Values_any w a len cap bs hin hcap).mono ?_
  rintro e w1 ⟨a1, n1, c1, rows, a2, n2, c2, vals, rfl, hrest⟩
  go_wp2
  go_ret2
  exact ⟨a1, n1, c1, rows, a2, n2, c2, vals, rfl, hrest⟩

theorem below_of_quiet {w w' : World} (h : ∃ m, w' = w.drewN m) : Below w.heap.size w w' := by obtain ⟨m, rfl⟩ := h; exact below_drewN (Below.refl _ _) m

set_option maxHeartbeats 2000000 in
theorem fnDoMoves_walk (a : Option Addr) (len cap : Nat) (zs : List Int) (w : World) (hrow : IsRow .u8 w a len cap zs) :
    Calls Try.prog 6 #[.slice a len cap] w fun e w' => e = .returned (.bool true) ∧ Below w.heap.size w w' := by
  have hin := bytes_of_row hrow
  have hcap := cap_of_row hrow
  clear hrow
  by_cases hbig : 1048576 < len
  · go_enter Try.func6, Try.ntmps6
    go_wp2
    go_ret
    exact ⟨rfl, Below.refl _ _⟩
  · go_enter Try.func6, Try.ntmps6
    go_wp2_with fail
    refine (drawDoMoves_any w a len cap _ hin hcap).mono ?_
    rintro e w1 ⟨a1, n1, c1, rows, a2, n2, c2, vals, rfl, hm1, hn1, hi1, hn2, _, _, hb1⟩
    clear hin hcap
    go_wp2_with fail
    refine (implDoMoves_all a1 n1 c1 rows a2 n2 c2 vals w1 hm1.toMatRd hi1 (by omega) (by omega)).mono ?_
    rintro e w2 ⟨a3, c3, rfl, hown3, hb2⟩
    have hg2 := (ints_of_own hown3).toIntsRd
    clear hown3
    have hb02 := hb1.trans (hb2.mono hb1.size)
    have hm2 := hm1.later hb2
    have hi2 := hi1.later hb2
    clear hm1 hi1 hb1 hb2
    go_wp2_with fail
    refine (specDoMoves_all a1 n1 c1 rows a2 n2 c2 vals w2 hm2.toMatRd hi2 (by omega) (by omega)).mono ?_
    rintro e w3 ⟨a4, c4, rfl, hown4, hb3⟩
    have hw3 := (ints_of_own hown4).toIntsRd
    have hg3 := hg2.later hb3
    have hb03 := hb02.trans (hb3.mono hb02.size)
    have hm3 := hm2.later hb3
    have hi3 := hi2.later hb3
    have hRl := dmRes_length (rows.map Hd.xs) vals
    have hl2 := hi3.length
    have HR := Lib.hid hRl
    clear hown4 hm2 hi2 hb02 hb3 hg2 hRl
    by_cases hfit : movesFit (rows.map Hd.xs) n2 = true
    · have hres : dmRes (rows.map Hd.xs) vals = doSeq (rows.map Hd.xs) vals := by rw [dmRes, hl2, if_pos hfit]
      have hlr : (doSeq (rows.map Hd.xs) vals).length = n2 := by rw [doSeq_length, hl2]
      rw [hfit]
      rw [hres, hlr] at hg3 hw3 ⊢
      have HF := Lib.hid hfit
      have HL := Lib.hid hl2
      have HR2 := Lib.hid hlr
      clear hres hfit hl2 hlr
      go_wp2_with fail
      refine (wwInts_true a3 a4 n2 c3 c4 _ w3 hg3 hw3 (by omega)).mono ?_
      rintro e w4 ⟨rfl, hq4⟩
      have hb34 := below_of_quiet hq4
      have hb04 := hb03.trans (hb34.mono hb03.size)
      have hm4 := hm3.later hb34
      have hi4 := hi3.later hb34
      have hg4 := hg3.later hb34
      clear hq4 hb34 hb03 hm3 hi3 hg3 hw3
      go_wp2
      go_loopw [62] (fun i wr => ∃ k : Nat, k ≤ n1 ∧ i = .int .i64 k ∧ Below w4.heap.size w4 wr) (fun i _ => n1 - (intOf i).toNat)
      case atStart => exact ⟨0, Nat.zero_le _, rfl, Below.refl _ _⟩
      case round =>
        obtain ⟨k, hk, rfl, hbr⟩ := hrel
        by_cases hlt : k < n1
        · have hm5 := hm4.later hbr
          have hi5 := hi4.later hbr
          have hg5 := hg4.later hbr
          have hcap5 := hm5.le
          obtain ⟨b, off, _, _, _, rfl, _⟩ := hm5.toMatRd.place hlt
          have hpre := hm5.toMatRd.pre (k := k) (by omega)
          have hfp : movesFit ((rows.take k).map Hd.xs) n2 = true := movesFit_sub HF.out (by simp; omega) (fun m hm => by
            obtain ⟨r, hr, rfl⟩ := List.mem_map.1 hm
            exact List.mem_map.2 ⟨r, List.mem_of_mem_take hr, rfl⟩)
          have HFP := Lib.hid hfp
          clear hfp
          go_wp2_with fail
          refine (implDoMoves_any _ k _ (rows.take k) a2 n2 c2 vals wr hpre hi5 (by omega) (by omega) HFP.out).mono ?_
          rintro e w6 ⟨a6, c6, rfl, hown6, hb6⟩
          have hsuf := (hm5.toMatRd.from k).later hb6
          have hfs : movesFit ((rows.drop k).map Hd.xs) n2 = true := movesFit_sub HF.out (by simp) (fun m hm => by
            obtain ⟨r, hr, rfl⟩ := List.mem_map.1 hm
            exact List.mem_map.2 ⟨r, List.mem_of_mem_drop hr, rfl⟩)
          have HFS := Lib.hid hfs
          have hg6 := hg5.later hb6
          have hbr6 := hbr.trans (hb6.mono hbr.size)
          have hi6 := ints_of_own hown6
          clear hfs hpre hm5 hi5 hg5 hb6 hown6
          go_wp2_with fail
          refine (implDoMoves_any _ (n1 - k) _ (rows.drop k) a6 n2 c6 _ w6 hsuf hi6 (by omega) (by omega) HFS.out).mono ?_
          rw [← doSeq_append, ← List.map_append, List.take_append_drop]
          rintro e w7 ⟨a7, c7, rfl, hown7, hb7⟩
          have hg7 := hg6.later hb7
          have hbr7 := hbr6.trans (hb7.mono hbr6.size)
          have hi7 := (ints_of_own hown7).toIntsRd
          clear hsuf hi6 hg6 hb7 hown7 hbr6
          go_wp2_with fail
          refine (wwInts_true a7 a3 n2 c7 c3 _ w7 hi7 hg7 (by omega)).mono ?_
          rintro e w8 ⟨rfl, hq8⟩
          have hbr8 := hbr7.trans ((below_of_quiet hq8).mono hbr7.size)
          clear hq8
          go_wp2
          go_roundw
          case rel => exact ⟨k + 1, by omega, by go_num, hbr8⟩
          case measure => simp [intOf]; omega
        · have heq : ((n2 : Int) == (n2 : Int)) = true := by simp
          go_wp2
          go_ret
          exact ⟨rfl, hb04.trans (hbr.mono hb04.size)⟩
    · have hfit' : movesFit (rows.map Hd.xs) n2 = false := by simpa using hfit
      have hres : dmRes (rows.map Hd.xs) vals = [] := by rw [dmRes, hl2, if_neg hfit]
      rw [hfit']
      rw [hres] at hg3 hw3 ⊢
      have hlz : ([] : List Int).length = 0 := rfl
      rw [hlz] at hg3 hw3 ⊢
      clear hres hfit hfit' hl2 hlz
      go_wp2_with fail
      refine (wwInts_true a3 a4 0 c3 c4 _ w3 hg3 hw3 (by omega)).mono ?_
      rintro e w4 ⟨rfl, hq4⟩
      have hb34 := below_of_quiet hq4
      have hb04 := hb03.trans (hb34.mono hb03.size)
      have hg4 := hg3.later hb34
      have hw4 := hw3.later hb34
      clear hq4 hb34 hb03 hm3 hi3 hg3 hw3
      go_wp2_with fail
      refine (wwInts_true a3 a4 0 c3 c4 _ w4 hg4 hw4 (by omega)).mono ?_
      rintro e w5 ⟨rfl, hq5⟩
      have hb05 := hb04.trans ((below_of_quiet hq5).mono hb04.size)
      clear hq5
      go_wp2
      go_ret
      exact ⟨rfl, hb05⟩

end Go.Proofs.Ythadaohnanpmiaa
