/-
  The walk of the law FnMovesFew.
-/
import Derived.Test.YthadaohnanpmiaaNeeded
import Derived.Test.YthadaohnanpmiaaLOrder
namespace Go.Proofs.Ythadaohnanpmiaa
open Go.RowKit

def mvp (r : Int) (m : List Int) : Bool := m.getD 0 0 == r && m.getD 1 0 != r
theorem mv_eq (xss : List (List Int)) (r : Int) : nxt (pairs xss) r = (xss.find? (mvp r)).map (fun m => m.getD 1 0) := by
  induction xss with
  | nil => rfl
  | cons x xss ih =>
    have e : pairs (x :: xss) = (if x.getD 0 0 ≠ x.getD 1 0 then [(x.getD 0 0, x.getD 1 0)] else []) ++ pairs xss := by
      unfold pairs
      rw [List.map_cons]
      by_cases h : x.getD 0 0 = x.getD 1 0
      · rw [List.filter_cons_of_neg (by simpa using h), if_neg (by simpa using h)]
        rfl
      · rw [List.filter_cons_of_pos (by simpa using h), if_pos h]
        rfl
    rw [e, List.find?_cons]
    by_cases h1 : x.getD 0 0 = r
    · by_cases h2 : x.getD 1 0 = r
      · have hm : mvp r x = false := by unfold mvp; rw [h2]; simp
        rw [hm, if_neg (by rw [h1, h2]; simp)]
        exact ih
      · have hm : mvp r x = true := by unfold mvp; rw [h1]; simpa using h2
        rw [hm, if_pos (by rw [h1]; exact fun e => h2 e.symm)]
        unfold nxt
        rw [List.cons_append, List.find?_cons]
        rw [show ((x.getD 0 0, x.getD 1 0).1 == r) = true by simpa using h1]
        rfl
    · have hm : mvp r x = false := by
        unfold mvp
        rw [show (x.getD 0 0 == r) = false by simpa using h1]
        rfl
      rw [hm]
      rw [← ih]
      split
      · unfold nxt
        rw [List.cons_append, List.find?_cons]
        rw [show ((x.getD 0 0, x.getD 1 0).1 == r) = false by simpa using h1]
        rfl
      · rfl
theorem find_at {α : Type} {p : α → Bool} : ∀ {l : List α} {k : Nat} {m : α}, (∀ j x, j < k → l[j]? = some x → p x = false) → l[k]? = some m → p m = true → l.find? p = some m
  | [], _, _, _, h, _ => by simp at h
  | a :: l, 0, m, _, h, hp => by
    simp at h
    subst h
    rw [List.find?_cons, hp]
  | a :: l, k + 1, m, hno, h, hp => by
    rw [List.find?_cons, hno 0 a (by omega) (by simp)]
    exact find_at (k := k) (fun j x hj hx => hno (j + 1) x (by omega) (by simpa using hx)) (by simpa using h) hp

set_option maxHeartbeats 400000 in
theorem wwMoved_any (a : Option Addr) (len cap : Nat) (rows : List Hd) (r : Int) (w : World) (hin : MatRd w a len rows) (hs : len ≤ 1099511627776) (hmv : ∀ r ∈ rows, isMove r.xs = true) :
    Calls Try.prog 39 #[.slice a len cap, .int .i64 r] w fun e w' => e = .returned (.int .i64 ((nxt (pairs (rows.map Hd.xs)) r).getD (-1))) ∧ w = w' := by
  have HL := Lib.hid hin.length
  have HM := Lib.hid hmv
  clear hmv
  go_enter Try.func39, Try.ntmps39
  go_wp2
  go_loop [9] (fun i => ∃ k : Nat, k ≤ len ∧ i = .int .i64 k ∧ Hid (∀ j x, j < k → rows[j]? = some x → mvp r x.xs = false)) (fun i => len - (intOf i).toNat)
  case atStart => exact ⟨0, Nat.zero_le _, rfl, Lib.hid (fun j x hj => by omega)⟩
  case round =>
    obtain ⟨k, hk, rfl, hno⟩ := hrel
    by_cases hlt : k < len
    · obtain ⟨b, off, ai, ci, xs, rfl, hx, hc, hi⟩ := hin.place hlt
      obtain ⟨i, j, hij, hi9, hj9⟩ := isMove_cases (HM.out _ (List.mem_of_getElem? hx))
      simp only at hij
      subst hij
      obtain ⟨bm, om, rfl, hd0, hd1⟩ := two_cells hi
      have HX := Lib.hid hx
      have hnext : mvp r [(i : Int), (j : Int)] = false → ∀ q x, q < k + 1 → rows[q]? = some x → mvp r x.xs = false := by
        intro hb q x hq hqx
        by_cases hqk : q = k
        · subst hqk
          rw [HX.out] at hqx
          cases hqx
          exact hb
        · exact hno.out q x (by omega) hqx
      have HNX := Lib.hid hnext
      clear hx hnext
      by_cases h1 : (i : Int) = r
      · have hd : ((i : Int) == r) = true := by simpa using h1
        by_cases h2 : (j : Int) = r
        · have hd2 : ((j : Int) != r) = false := by simpa using h2
          have HMV : Hid (mvp r [(i : Int), (j : Int)] = false) := Lib.hid (by unfold mvp; show ((i : Int) == r && (j : Int) != r) = false; rw [hd, hd2]; rfl)
          clear h1 h2
          go_wp2
          go_round
          case rel => exact ⟨k + 1, by omega, by go_num, Lib.hid (HNX.out HMV.out)⟩
          case measure => simp [intOf]; omega
        · have hd2 : ((j : Int) != r) = true := by simpa using h2
          have HF : Hid ((j : Int) = (nxt (pairs (rows.map Hd.xs)) r).getD (-1)) := Lib.hid (by
            have h3 : (rows.map Hd.xs).find? (mvp r) = some [(i : Int), (j : Int)] := by
              refine find_at (k := k) (fun q x hq hqx => ?_) (by rw [List.getElem?_map, HX.out]; rfl) (by unfold mvp; show ((i : Int) == r && (j : Int) != r) = true; rw [hd, hd2]; rfl)
              rw [List.getElem?_map] at hqx
              obtain ⟨y, hy, rfl⟩ := Option.map_eq_some_iff.1 hqx
              exact hno.out q y hq hy
            rw [mv_eq, h3]
            rfl)
          clear h1 h2
          go_wp2
          go_ret
          exact ⟨ret_int HF.out, rfl⟩
      · have hd : ((i : Int) == r) = false := by simpa using h1
        have HMV : Hid (mvp r [(i : Int), (j : Int)] = false) := Lib.hid (by unfold mvp; show ((i : Int) == r && (j : Int) != r) = false; rw [hd]; rfl)
        clear h1
        go_wp2
        go_round
        case rel => exact ⟨k + 1, by omega, by go_num, Lib.hid (HNX.out HMV.out)⟩
        case measure => simp [intOf]; omega
    · obtain rfl : k = len := by omega
      have HF : Hid ((-1 : Int) = (nxt (pairs (rows.map Hd.xs)) r).getD (-1)) := Lib.hid (by
        have h3 : (rows.map Hd.xs).find? (mvp r) = none := by
          rw [List.find?_eq_none]
          intro x hx
          obtain ⟨y, hy, rfl⟩ := List.mem_map.1 hx
          obtain ⟨q, hq⟩ := List.getElem?_of_mem hy
          rw [hno.out q y (by have := (List.getElem?_eq_some_iff.1 hq).1; have := HL.out; omega) hq]
          simp
        rw [mv_eq, h3]
        rfl)
      go_wp2
      go_ret
      exact ⟨ret_int HF.out, rfl⟩

theorem countP_snoc {α : Type} (p : α → Bool) (l : List α) (a : α) : (l ++ [a]).countP p = l.countP p + (if p a = true then 1 else 0) := by
  rw [List.countP_append, List.countP_singleton]

theorem drawNeeded_any (w : World) (a : Option Addr) (len cap : Nat) (bs : List Int) (hin : BytesRd w a len bs) (hcap : len ≤ cap) :
    Calls Try.prog 38 #[.slice a len cap] w fun e w' =>
      ∃ a n c rows, e = .returned (.slice a n c) ∧ MatAt w' a n c rows ∧ n ≤ 9 ∧ Below w.heap.size w w' := by
  go_enter Try.func38, Try.ntmps38
  go_wp2_with fail
  refine (open_any w a len cap bs hin hcap).mono ?_
  rintro e w1 ⟨a1, len1, cap1, bs1, rfl, hrd1, hlen1, hsz1⟩
  clear hin hcap
  go_wp2_with fail
  refine (l14List_any w w1 w.heap.size a1 len1 cap1 bs1 0 hrd1 hlen1 (by omega)).mono ?_
  rintro e w2 ⟨a2, n2, c2, rows, p2, rfl, hm2, hn2, hrd2, hp2⟩
  go_wp2
  go_ret
  exact ⟨a2, n2, c2, rows, rfl, hm2.at, hn2, hrd2.below⟩

theorem few_bound {xss : List (List Int)} (hm : ∀ x ∈ xss, isMove x = true) (hn : (xss.map to).Nodup) : (pairs xss).length ≤ (ordRes 300 (pairs xss)).length ∧ (ordRes 300 (pairs xss)).length ≤ (pairs xss).length + (pairs xss).countP (counted (pairs xss) xss.length) := by
  have h1 := order_count (2 * (pairs xss).length + 1) (pairs xss) [] (ordMeas_le _) (pairs_dests hn) (ordInv_big hm)
  have h2 := rings_counted (pairs xss) (pairs_length xss)
  simp only [List.length_nil] at h1
  unfold ordRes
  omega

set_option maxRecDepth 100000 in
set_option maxHeartbeats 2000000 in
theorem fnMovesFew_walk (a : Option Addr) (len cap : Nat) (zs : List Int) (w : World) (hrow : IsRow .u8 w a len cap zs) :
    Calls Try.prog 11 #[.slice a len cap] w fun e w' => e = .returned (.bool true) ∧ Below w.heap.size w w' := by
  have hin := bytes_of_row hrow
  have hcap := cap_of_row hrow
  clear hrow
  by_cases hbig : 1048576 < len
  · go_enter Try.func11, Try.ntmps11
    go_wp2
    go_ret
    exact ⟨rfl, Below.refl _ _⟩
  · go_enter Try.func11, Try.ntmps11
    go_wp2_with fail
    refine (drawNeeded_any w a len cap _ hin hcap).mono ?_
    rintro e w1 ⟨a1, n1, cp, rows, rfl, hm1, hn1, hb1⟩
    clear hin hcap
    go_wp2_with fail
    refine (implNeeded_any a1 n1 cp rows w1 hm1.toMatRd (by omega)).mono ?_
    rintro e w2 ⟨rfl, hb2⟩
    have hm2 := hm1.later hb2
    have hb02 := hb1.trans (hb2.mono hb1.size)
    clear hm1 hb1 hb2
    by_cases hon : onceAll (rows.map Hd.xs) = true
    · have hR : mnRes (rows.map Hd.xs) = ((ordRes 300 (pairs (rows.map Hd.xs))).length : Int) := by rw [mnRes, if_pos hon]
      have hon2 := hon
      rw [onceAll, Bool.and_eq_true] at hon2
      have hmv := movesOk_rows hon2.1
      have hmx : ∀ x ∈ rows.map Hd.xs, isMove x = true := fun x hx => by obtain ⟨r, hr, rfl⟩ := List.mem_map.1 hx; exact hmv r hr
      have hfew := few_bound hmx (nodup_to hmv hon2.2)
      have hll := hm2.length
      rw [List.length_map, hll] at hfew
      have hcl : (ordRes 300 (pairs (rows.map Hd.xs))).length ≤ 1000 := by
        have h1 := ordEnd_length 300 (2 * (pairs (rows.map Hd.xs)).length + 1) (pairs (rows.map Hd.xs)) []
        have h2 := pairs_length (rows.map Hd.xs)
        rw [List.length_map] at h2
        simp only [List.length_nil] at h1
        unfold ordRes
        omega
      generalize hnn : (ordRes 300 (pairs (rows.map Hd.xs))).length = nn at hR hfew hcl
      have HR := Lib.hid hR
      have HM := Lib.hid hmv
      have HF := Lib.hid hfew
      have HL := Lib.hid hll
      have hneg : decide ((nn : Int) < 0) = false := decide_eq_false (by omega)
      have hne : ((nn : Int) != (nn : Int)) = false := by simp
      rw [hR]
      clear hon hR hon2 hmv hmx hfew hll hnn
      go_wp2_with fail
      refine (specNeeded_any a1 n1 cp rows w2 hm2.toMatRd (by omega)).mono ?_
      rw [HR.out]
      rintro e w3 ⟨rfl, hb3⟩
      have hm3 := hm2.later hb3
      have hb03 := hb02.trans (hb3.mono hb02.size)
      clear hm2 hb02 hb3
      go_wp2_with fail
      generalize hps : pairs (rows.map Hd.xs) = ps at HF
      have HPS := Lib.hid hps
      clear hps
      go_loopw [5, 6, 36] (fun mv rv i wr => ∃ k : Nat, k ≤ n1 ∧ i = .int .i64 k ∧ Below w3.heap.size w3 wr ∧ ∃ c1 c2 : Nat, c1 ≤ k ∧ c2 ≤ k ∧ mv = .int .i64 c1 ∧ rv = .int .i64 c2 ∧ Hid (c1 = (pairs ((rows.take k).map Hd.xs)).length ∧ c2 = (pairs ((rows.take k).map Hd.xs)).countP (counted ps n1))) (fun _ _ i _ => n1 - (intOf i).toNat)
      case atStart => exact ⟨0, Nat.zero_le _, rfl, Below.refl _ _, 0, 0, Nat.le_refl _, Nat.le_refl _, rfl, rfl, Lib.hid ⟨rfl, rfl⟩⟩
      case round =>
        obtain ⟨k, hk, rfl, hbr, c1, c2, hc1, hc2, rfl, rfl, hcc⟩ := hrel
        have hm4 := (hm3.later hbr).toMatRd
        by_cases hlt : k < n1
        · obtain ⟨b, off, ai, ci, xs, rfl, hx, hc, hi⟩ := hm4.place hlt
          obtain ⟨i, j, hij, hi9, hj9⟩ := isMove_cases (HM.out _ (List.mem_of_getElem? hx))
          simp only at hij
          subst hij
          obtain ⟨bm, om, rfl, hd0, hd1⟩ := two_cells hi
          have HT := Lib.hid (take_succ_of hx)
          clear hx
          by_cases hne : i = j
          · subst hne
            have hd : ((i : Int) == (i : Int)) = true := by simp
            go_wp2
            go_quiet (fail)
            go_wp2
            go_roundw
            case rel =>
              refine ⟨k + 1, by omega, by go_num, below_drewN hbr nq, c1, c2, by omega, by omega, rfl, rfl, Lib.hid ?_⟩
              rw [HT.out, List.map_append]
              show c1 = (pairs ((rows.take k).map Hd.xs ++ [[(i : Int), (i : Int)]])).length ∧ c2 = (pairs ((rows.take k).map Hd.xs ++ [[(i : Int), (i : Int)]])).countP (counted ps n1)
              rw [pairs_snoc, if_neg (by simp), List.append_nil]
              exact hcc.out
            case measure => simp [intOf]; omega
          · have hd : ((i : Int) == (j : Int)) = false := by simp; omega
            go_wp2
            go_quiet (fail)
            go_wp2
            go_quiet (fail)
            go_wp2
            generalize hwx : wr.drewN _ = wx
            have hq : ∃ q, wx = wr.drewN q := ⟨_, hwx.symm⟩
            have hmx := hm4.quiet hq
            have hd0x : wx.cell? ⟨bm, om, none⟩ = some (.int .i64 i) := by obtain ⟨q, rfl⟩ := hq; exact hd0
            have hbx : Below w3.heap.size w3 wx := hbr.trans ((below_of_quiet hq).mono hbr.size)
            have hww : ∀ r, Calls Try.prog 39 #[.slice (some ⟨b, off, none⟩) n1 cp, .int .i64 r] wx fun e w' => e = .returned (.int .i64 ((nxt ps r).getD (-1))) ∧ wx = w' := fun r => by
              rw [← HPS.out]
              exact wwMoved_any _ n1 _ rows r wx hmx (by omega) HM.out
            have HW := Lib.hid hww
            clear hwx hq hww hmx hd hd0 hd1 hc hi hm4 hbr
            go_loop [9, 10, 57] (fun at' le' jj => ∃ (q : Nat) (at0 le0 : Int), q ≤ n1 ∧ jj = .int .i64 q ∧ at' = .int .i64 at0 ∧ le' = .int .i64 le0 ∧ Hid (chase ps ((i : Int), (j : Int)) (n1 - q) (at0, le0) = chase ps ((i : Int), (j : Int)) n1 ((j : Int), (i : Int)))) (fun _ _ jj => n1 - (intOf jj).toNat)
            case atStart => exact ⟨0, j, i, Nat.zero_le _, rfl, rfl, rfl, Lib.hid rfl⟩
            case round =>
              obtain ⟨q, at0, le0, hq, rfl, rfl, rfl, hch⟩ := hrel
              by_cases hqn : q < n1
              · by_cases hat : at0 = (i : Int)
                · have HCH : Hid ((at0, le0) = chase ps ((i : Int), (j : Int)) n1 ((j : Int), (i : Int))) := Lib.hid (by
                    rw [← hch.out]
                    obtain ⟨d, hd⟩ : ∃ d, n1 - q = d + 1 := ⟨n1 - q - 1, by omega⟩
                    rw [hd]
                    unfold chase
                    rw [if_pos hat])
                  subst hat
                  have hA : ((i : Int) == (i : Int)) = true := by simp
                  by_cases hle : le0 = (i : Int)
                  · subst hle
                    have HCT : Hid (counted ps n1 ((i : Int), (j : Int)) = true) := Lib.hid (by
                      rw [counted, ← HCH.out]
                      simp)
                    go_wp2
                    go_roundw
                    case rel =>
                      refine ⟨k + 1, by omega, by go_num, hbx, c1 + 1, c2 + 1, by omega, by omega, by go_num, by go_num, Lib.hid ?_⟩
                      rw [HT.out, List.map_append]
                      show c1 + 1 = (pairs ((rows.take k).map Hd.xs ++ [[(i : Int), (j : Int)]])).length ∧ c2 + 1 = (pairs ((rows.take k).map Hd.xs ++ [[(i : Int), (j : Int)]])).countP (counted ps n1)
                      have e4 : ([(i : Int), (j : Int)].getD 0 0, [(i : Int), (j : Int)].getD 1 0) = ((i : Int), (j : Int)) := rfl
                      rw [pairs_snoc, if_pos (by simp; omega), List.length_append, countP_snoc, e4, HCT.out, ← hcc.out.1, ← hcc.out.2]
                      exact ⟨rfl, rfl⟩
                    case measure => simp [intOf]; omega
                  · have hB : (le0 == (i : Int)) = false := by simpa using hle
                    have HCT : Hid (counted ps n1 ((i : Int), (j : Int)) = false) := Lib.hid (by
                      rw [counted, ← HCH.out]
                      simpa using hle)
                    go_wp2
                    go_roundw
                    case rel =>
                      refine ⟨k + 1, by omega, by go_num, hbx, c1 + 1, c2, by omega, by omega, by go_num, rfl, Lib.hid ?_⟩
                      rw [HT.out, List.map_append]
                      show c1 + 1 = (pairs ((rows.take k).map Hd.xs ++ [[(i : Int), (j : Int)]])).length ∧ c2 = (pairs ((rows.take k).map Hd.xs ++ [[(i : Int), (j : Int)]])).countP (counted ps n1)
                      have e4 : ([(i : Int), (j : Int)].getD 0 0, [(i : Int), (j : Int)].getD 1 0) = ((i : Int), (j : Int)) := rfl
                      rw [pairs_snoc, if_pos (by simp; omega), List.length_append, countP_snoc, e4, HCT.out, ← hcc.out.1, ← hcc.out.2]
                      exact ⟨rfl, rfl⟩
                    case measure => simp [intOf]; omega
                · have hA : (at0 == (i : Int)) = false := by simpa using hat
                  cases hnx : nxt ps at0 with
                  | none =>
                    have HCH : Hid ((at0, le0) = chase ps ((i : Int), (j : Int)) n1 ((j : Int), (i : Int))) := Lib.hid (by
                      rw [← hch.out]
                      obtain ⟨d, hd⟩ : ∃ d, n1 - q = d + 1 := ⟨n1 - q - 1, by omega⟩
                      rw [hd]
                      unfold chase
                      rw [if_neg hat, hnx])
                    have hw := HW.out at0
                    rw [hnx] at hw
                    have HW1 := Lib.hid hw
                    have HAT := Lib.hid hat
                    clear hat hnx hw
                    go_wp2_with fail
                    refine HW1.out.mono ?_
                    rintro e w5 ⟨rfl, rfl⟩
                    have HCT : Hid (counted ps n1 ((i : Int), (j : Int)) = false) := Lib.hid (by
                      rw [counted, ← HCH.out]
                      simp [HAT.out])
                    go_wp2
                    go_roundw
                    case rel =>
                      refine ⟨k + 1, by omega, by go_num, hbx, c1 + 1, c2, by omega, by omega, by go_num, rfl, Lib.hid ?_⟩
                      rw [HT.out, List.map_append]
                      show c1 + 1 = (pairs ((rows.take k).map Hd.xs ++ [[(i : Int), (j : Int)]])).length ∧ c2 = (pairs ((rows.take k).map Hd.xs ++ [[(i : Int), (j : Int)]])).countP (counted ps n1)
                      have e4 : ([(i : Int), (j : Int)].getD 0 0, [(i : Int), (j : Int)].getD 1 0) = ((i : Int), (j : Int)) := rfl
                      rw [pairs_snoc, if_pos (by simp; omega), List.length_append, countP_snoc, e4, HCT.out, ← hcc.out.1, ← hcc.out.2]
                      exact ⟨rfl, rfl⟩
                    case measure => simp [intOf]; omega
                  | some y =>
                    have hy : 0 ≤ y ∧ y ≤ 299 := by
                      have h1 := nxt_mem hnx
                      rw [← HPS.out] at h1
                      have h2 := pairs_mem (fun x hx => by obtain ⟨r, hr, rfl⟩ := List.mem_map.1 hx; exact HM.out r hr) h1
                      omega
                    obtain ⟨hy0, hy1⟩ := hy
                    have hw := HW.out at0
                    rw [hnx] at hw
                    have HW1 := Lib.hid hw
                    have HCH : Hid (chase ps ((i : Int), (j : Int)) (n1 - (q + 1)) (y, min le0 at0) = chase ps ((i : Int), (j : Int)) n1 ((j : Int), (i : Int))) := Lib.hid (by
                      rw [← hch.out]
                      obtain ⟨d, hd⟩ : ∃ d, n1 - q = d + 1 := ⟨n1 - q - 1, by omega⟩
                      rw [hd, show n1 - (q + 1) = d by omega]
                      conv => rhs; unfold chase
                      rw [if_neg hat, hnx])
                    have hyn : decide ((some y).getD (-1) < 0) = false := decide_eq_false (by show ¬ y < 0; omega)
                    clear hat hnx hw
                    go_wp2_with fail
                    refine HW1.out.mono ?_
                    rintro e w5 ⟨rfl, rfl⟩
                    go_wp2_with fail
                    all_goals (refine HW1.out.mono ?_; rintro e w6 ⟨rfl, rfl⟩)
                    all_goals go_wp2
                    all_goals go_round
                    all_goals first
                      | (simp [intOf]; omega; done)
                      | (refine ⟨q + 1, y, le0, by omega, by go_num, rfl, rfl, Lib.hid ?_⟩
                         have e5 : min le0 at0 = le0 := by omega
                         have e6 := HCH.out
                         rw [e5] at e6
                         exact e6)
                      | (refine ⟨q + 1, y, at0, by omega, by go_num, rfl, rfl, Lib.hid ?_⟩
                         have e5 : min le0 at0 = at0 := by omega
                         have e6 := HCH.out
                         rw [e5] at e6
                         exact e6)
              · obtain rfl : q = n1 := by omega
                have HCH : Hid ((at0, le0) = chase ps ((i : Int), (j : Int)) q ((j : Int), (i : Int))) := Lib.hid (by
                  rw [← hch.out, Nat.sub_self]
                  rfl)
                by_cases hat : at0 = (i : Int)
                · subst hat
                  have hA : ((i : Int) == (i : Int)) = true := by simp
                  by_cases hle : le0 = (i : Int)
                  · subst hle
                    have HCT : Hid (counted ps q ((i : Int), (j : Int)) = true) := Lib.hid (by
                      rw [counted, ← HCH.out]
                      simp)
                    go_wp2
                    go_roundw
                    case rel =>
                      refine ⟨k + 1, by omega, by go_num, hbx, c1 + 1, c2 + 1, by omega, by omega, by go_num, by go_num, Lib.hid ?_⟩
                      rw [HT.out, List.map_append]
                      show c1 + 1 = (pairs ((rows.take k).map Hd.xs ++ [[(i : Int), (j : Int)]])).length ∧ c2 + 1 = (pairs ((rows.take k).map Hd.xs ++ [[(i : Int), (j : Int)]])).countP (counted ps q)
                      have e4 : ([(i : Int), (j : Int)].getD 0 0, [(i : Int), (j : Int)].getD 1 0) = ((i : Int), (j : Int)) := rfl
                      rw [pairs_snoc, if_pos (by simp; omega), List.length_append, countP_snoc, e4, HCT.out, ← hcc.out.1, ← hcc.out.2]
                      exact ⟨rfl, rfl⟩
                    case measure => simp [intOf]; omega
                  · have hB : (le0 == (i : Int)) = false := by simpa using hle
                    have HCT : Hid (counted ps q ((i : Int), (j : Int)) = false) := Lib.hid (by
                      rw [counted, ← HCH.out]
                      simpa using hle)
                    go_wp2
                    go_roundw
                    case rel =>
                      refine ⟨k + 1, by omega, by go_num, hbx, c1 + 1, c2, by omega, by omega, by go_num, rfl, Lib.hid ?_⟩
                      rw [HT.out, List.map_append]
                      show c1 + 1 = (pairs ((rows.take k).map Hd.xs ++ [[(i : Int), (j : Int)]])).length ∧ c2 = (pairs ((rows.take k).map Hd.xs ++ [[(i : Int), (j : Int)]])).countP (counted ps q)
                      have e4 : ([(i : Int), (j : Int)].getD 0 0, [(i : Int), (j : Int)].getD 1 0) = ((i : Int), (j : Int)) := rfl
                      rw [pairs_snoc, if_pos (by simp; omega), List.length_append, countP_snoc, e4, HCT.out, ← hcc.out.1, ← hcc.out.2]
                      exact ⟨rfl, rfl⟩
                    case measure => simp [intOf]; omega
                · have hA : (at0 == (i : Int)) = false := by simpa using hat
                  have HCT : Hid (counted ps q ((i : Int), (j : Int)) = false) := Lib.hid (by
                    rw [counted, ← HCH.out]
                    simp [hat])
                  go_wp2
                  go_roundw
                  case rel =>
                    refine ⟨k + 1, by omega, by go_num, hbx, c1 + 1, c2, by omega, by omega, by go_num, rfl, Lib.hid ?_⟩
                    rw [HT.out, List.map_append]
                    show c1 + 1 = (pairs ((rows.take k).map Hd.xs ++ [[(i : Int), (j : Int)]])).length ∧ c2 = (pairs ((rows.take k).map Hd.xs ++ [[(i : Int), (j : Int)]])).countP (counted ps q)
                    have e4 : ([(i : Int), (j : Int)].getD 0 0, [(i : Int), (j : Int)].getD 1 0) = ((i : Int), (j : Int)) := rfl
                    rw [pairs_snoc, if_pos (by simp; omega), List.length_append, countP_snoc, e4, HCT.out, ← hcc.out.1, ← hcc.out.2]
                    exact ⟨rfl, rfl⟩
                  case measure => simp [intOf]; omega
        · obtain rfl : k = n1 := by omega
          have hcc2 := hcc.out
          rw [List.take_of_length_le (by have := HL.out; omega), HPS.out] at hcc2
          obtain ⟨e1, e2⟩ := hcc2
          have h1 := HF.out.1
          have h2 := HF.out.2
          rw [← e1] at h1 h2
          rw [← e2] at h2
          have hb0 := hb03.trans (hbr.mono hb03.size)
          have h3 : (c1 : Int) ≤ (nn : Int) := by omega
          have h4 : decide ((nn : Int) ≤ (c1 : Int) + (c2 : Int)) = true := decide_eq_true (by omega)
          clear e1 e2 h2
          go_wp2
          go_ret
          exact ⟨rfl, hb0⟩
    · have hR : mnRes (rows.map Hd.xs) = -1 := by rw [mnRes, if_neg hon]
      have HR := Lib.hid hR
      rw [hR]
      clear hon hR
      go_wp2_with fail
      refine (specNeeded_any a1 n1 cp rows w2 hm2.toMatRd (by omega)).mono ?_
      rw [HR.out]
      rintro e w3 ⟨rfl, hb3⟩
      have hm3 := hm2.later hb3
      have hb03 := hb02.trans (hb3.mono hb02.size)
      clear hm2 hb02 hb3
      go_wp2_with fail
      refine (specNeeded_any a1 n1 cp rows w3 hm3.toMatRd (by omega)).mono ?_
      rw [HR.out]
      rintro e w4 ⟨rfl, hb4⟩
      have hb04 := hb03.trans (hb4.mono hb03.size)
      clear hb4
      go_wp2
      go_ret
      exact ⟨rfl, hb04⟩

end Go.Proofs.Ythadaohnanpmiaa
