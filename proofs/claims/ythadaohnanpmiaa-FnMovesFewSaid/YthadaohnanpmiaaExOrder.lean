/-
  The walk of the law FnExactOrderMoves.
-/
import Derived.Test.YthadaohnanpmiaaOrderAll
import Derived.Test.YthadaohnanpmiaaExDoMoves
namespace Go.Proofs.Ythadaohnanpmiaa
open Go.RowKit

theorem ordEnd_length (spare : Int) : ∀ (F : Nat) (left out : List (Int × Int)), (ordEnd spare F left out).length ≤ out.length + F
  | 0, left, out => by simp [ordEnd]
  | F + 1, left, out => by
    rw [ordEnd]
    split
    · omega
    · have h1 := ordEnd_length spare F (ordStep spare left out).1 (ordStep spare left out).2
      have h2 : (ordStep spare left out).2.length = out.length + 1 := by unfold ordStep; split <;> simp
      omega
theorem ordRes'_length (xss : List (List Int)) (spare : Int) : (ordRes' xss spare).length ≤ 2 * xss.length + 1 := by
  rw [ordRes']
  split
  · rw [List.length_map]
    have h1 := ordEnd_length spare (2 * (pairs xss).length + 1) (pairs xss) []
    have h2 := pairs_length xss
    rw [ordRes]
    simp only [List.length_nil] at h1
    omega
  · simp
theorem ordRes'_two (xss : List (List Int)) (spare : Int) : ∀ x ∈ ordRes' xss spare, x.length = 2 := by
  intro x hx
  rw [ordRes'] at hx
  split at hx
  · obtain ⟨m, _, rfl⟩ := List.mem_map.1 hx
    rfl
  · cases hx
theorem total_two {rows : List Hd} {R : List (List Int)} (h : rows.map Hd.xs = R) (h2 : ∀ x ∈ R, x.length = 2) : total rows = 2 * R.length := by
  subst h
  induction rows with
  | nil => rfl
  | cons r rows ih =>
    have h1 := h2 r.xs (by simp)
    have h3 := ih (fun x hx => h2 x (by simp at hx ⊢; exact .inr hx))
    simp only [total, List.map_cons, List.sum_cons, List.length_cons] at h3 ⊢
    omega
theorem lens_two {rows : List Hd} {R : List (List Int)} (h : rows.map Hd.xs = R) (h2 : ∀ x ∈ R, x.length = 2) : ∀ r ∈ rows, r.xs.length ≤ 1099511627776 := by
  intro r hr
  have := h2 r.xs (by rw [← h]; exact List.mem_map.2 ⟨r, hr, rfl⟩)
  omega
theorem len_of_xs {rows : List Hd} {R : List (List Int)} (h : rows.map Hd.xs = R) : rows.length = R.length := by rw [← h]; simp
theorem runs_lens {rows rows' : List Hd} {k : Int} (h : rows'.map Hd.xs = runs k (rows.map (·.xs.length))) : rows'.map (·.xs.length) = rows.map (·.xs.length) := by
  have e : ∀ rs : List Hd, rs.map (·.xs.length) = (rs.map Hd.xs).map List.length := by intro rs; simp [Function.comp_def]
  have e2 : ∀ (ns : List Nat) (k : Int), (runs k ns).map List.length = ns := by
    intro ns
    induction ns with
    | nil => intro k; rfl
    | cons n ns ih => intro k; simp [runs, run_length, ih]
  rw [e rows', h, e2]

set_option maxHeartbeats 2000000 in
theorem fnExactOrderMoves_walk (a : Option Addr) (len cap : Nat) (rows : List Hd) (spare : Int) (w : World) (hrows : RowsIn w a len cap rows) :
    Calls Try.prog 12 #[.slice a len cap, .int .i64 spare] w fun e w' => e = .returned (.bool true) ∧ Below w.heap.size w w' := by
  have hin := hrows.rd
  have HRL := Lib.hid hrows.rowLen
  have hlen := hrows.lenMax
  clear hrows
  go_enter Try.func12, Try.ntmps12
  go_wp2_with fail
  refine (szIntSS_any a len cap rows 1048576 w hin (by omega) (by omega) hlen HRL.out).mono ?_
  rintro e w' ⟨hsz, rfl⟩
  rcases hsz with ⟨hsz, rfl⟩ | ⟨hsz, rfl⟩
  · go_wp2
    go_ret
    exact ⟨rfl, Below.refl _ _⟩
  · have hneg : decide (1048576 - ((len + total rows : Nat) : Int) < 0) = false := by simp; omega
    have hll : len ≤ 1048576 := by omega
    have htot : total rows ≤ 1048576 := by omega
    have HRL2 : Hid (∀ r ∈ rows, r.xs.length ≤ 1099511627776) := Lib.hid (fun r hr => by have := total_mem hr; omega)
    clear hlen HRL
    generalize (len + total rows : Nat) = tot at hneg hsz ⊢
    -- the reference's answer
    go_wp2_with fail
    refine (toIntSS_any a len cap rows w hin (by omega) HRL2.out).mono ?_
    rintro e w1 ⟨a1, c1, rs1, rfl, hm1, hx1, hb1⟩
    have hat1 := hm1.at.toMatRd
    have HX1 := Lib.hid hx1
    clear hx1 hm1 hneg
    go_wp2_with fail
    refine (specOrder_any a1 len c1 rs1 spare w1 hat1 (by omega)).mono ?_
    rw [HX1.out]
    generalize hR : ordRes' (rows.map Hd.xs) spare = R
    generalize hok : ordOk (rows.map Hd.xs) spare = ok
    have hRl : R.length ≤ 4194304 := by have := ordRes'_length (rows.map Hd.xs) spare; rw [hR, List.length_map, hin.length] at this; omega
    have HR := Lib.hid hR
    have HK := Lib.hid hok
    have HR2 : Hid (∀ x ∈ R, x.length = 2) := Lib.hid (by rw [← hR]; exact ordRes'_two _ _)
    clear hR hok
    rintro e w3 ⟨a3, n3, c3, rs3, rfl, hm3, hx3, hb3⟩
    have hb03 : Below w.heap.size w w3 := hb1.trans (hb3.mono hb1.size)
    have hw0 := hm3.at.toMatRd
    have HX3 := Lib.hid hx3
    obtain rfl : n3 = R.length := by rw [← len_of_xs hx3]; exact hw0.length.symm
    clear hm3 hx3 hb3 hb1 hat1 HX1
    -- the arguments, anew
    go_wp2_with fail
    refine (toIntSS_any a len cap rows w3 (hin.later hb03) (by omega) HRL2.out).mono ?_
    rintro e w4 ⟨a4, c4, rs4, rfl, hm4, hx4, hb4⟩
    have HX4 := Lib.hid hx4
    have hb04 : Below w.heap.size w w4 := hb03.trans (hb4.mono hb03.size)
    have hs34 := hb4.size
    clear hx4
    go_wp2_with fail
    refine (implOrder_all a4 len c4 rs4 spare w4 hm4.at.toMatRd (by omega)).mono ?_
    rw [HX4.out, HR.out, HK.out]
    rintro e w6 ⟨a6, n6, c6, rs6, rfl, hm6, hx6, hb6⟩
    have hb06 : Below w.heap.size w w6 := hb04.trans (hb6.mono hb04.size)
    have hb36 : Below w3.heap.size w3 w6 := hb4.trans (hb6.mono hb4.size)
    have hx46 := hm4.below hb6
    have HX6 := Lib.hid hx6
    obtain rfl : n6 = R.length := by rw [← len_of_xs hx6]; exact hm6.at.length.symm
    have hs46 := hb6.size
    have ht6 : total rs6 = 2 * R.length := total_two hx6 HR2.out
    clear hm4 hb4 hb04 hb6 hx6
    go_wp2_with fail
    refine (eqIntSS_quiet a6 a3 R.length c6 c3 rs6 rs3 w6 hm6.at.toMatRd (hw0.later hb36) (by rw [HX6.out, HX3.out]) (by omega) (lens_two HX6.out HR2.out)).mono ?_
    rintro e w7 ⟨rfl, hq7⟩
    have hb67 : Below w6.heap.size w6 w7 := by obtain ⟨m, rfl⟩ := hq7; exact below_drewN (Below.refl _ _) m
    have hb07 : Below w.heap.size w w7 := hb06.trans (hb67.mono hb06.size)
    have hb37 : Below w3.heap.size w3 w7 := hb36.trans (hb67.mono hb36.size)
    have hm7 := hx46.below hb67
    have hg7 := hm6.below hb67
    have hs67 := hb67.size
    clear hm6 hx46 hb06 hb36 hq7 hb67
    go_wp2_with fail
    refine (toIntSS_any a len cap rows w7 (hin.later hb07) (by omega) HRL2.out).mono ?_
    rintro e w8 ⟨a8, c8, rs8, rfl, hm8, hx8, hb8⟩
    have HX8 := Lib.hid hx8
    have hat8 := hm8.at.toMatRd
    have hb08 : Below w.heap.size w w8 := hb07.trans (hb8.mono hb07.size)
    have hb38 : Below w3.heap.size w3 w8 := hb37.trans (hb8.mono hb37.size)
    have hmm8 := hm7.below hb8
    have hg8 := hg7.below hb8
    have hs78 := hb8.size
    clear hx8 hm8 hm7 hg7 hb07 hb37 hb8
    go_wp2_with fail
    refine (eqIntSS_quiet a4 a8 len c4 c8 rs4 rs8 w8 hmm8.at.toMatRd hat8 (by rw [HX4.out, HX8.out]) (by omega) (rowLens_of_xs HX4.out HRL2.out)).mono ?_
    rintro e w9 ⟨rfl, hq9⟩
    have hb89 : Below w8.heap.size w8 w9 := by obtain ⟨m, rfl⟩ := hq9; exact below_drewN (Below.refl _ _) m
    have hb09 : Below w.heap.size w w9 := hb08.trans (hb89.mono hb08.size)
    have hb39 : Below w3.heap.size w3 w9 := hb38.trans (hb89.mono hb38.size)
    have hm9 := hmm8.below hb89
    have hg9 := hg8.below hb89
    have hs89 := hb89.size
    clear hmm8 hg8 hb08 hb38 hq9 hb89 hat8 HX8
    -- the marks
    go_wp2_with fail
    refine (markIntSS_any w3.heap.size w4.heap.size a4 len c4 rs4 1 w9 hm9 (by omega) (by omega) (by have := total_of_xs HX4.out; omega)).mono ?_
    rintro e w12 ⟨rs12, rfl, hm12, _, ht12⟩
    have hb012 : Below w.heap.size w w12 := hb09.trans (ht12.below hb09.size (fun k hk => by have := hb03.size; omega))
    have hb312 : Below w3.heap.size w3 w12 := hb39.trans (ht12.below hb39.size (fun k hk => hk.1))
    have hg12 := hg9.turned ht12 (fun k hk => .inl (by omega))
    have hs912 := ht12.size
    have hneg12 : 0 ≤ total rs4 := Nat.zero_le _
    have htt : total rs4 ≤ 1048576 := by have := total_of_xs HX4.out; omega
    clear hm9 hg9 hb09 hb39 hm12 ht12
    generalize total rs4 = T at hneg12 htt
    have hnk : decide (1 + (T : Int) < 0) = false := by simp; omega
    go_wp2_with fail
    refine (eqIntSS_quiet a6 a3 R.length c6 c3 rs6 rs3 w12 hg12.at.toMatRd (hw0.later hb312) (by rw [HX6.out, HX3.out]) (by omega) (lens_two HX6.out HR2.out)).mono ?_
    rintro e w14 ⟨rfl, hq14⟩
    have hb1214 : Below w12.heap.size w12 w14 := by obtain ⟨m, rfl⟩ := hq14; exact below_drewN (Below.refl _ _) m
    have hb014 : Below w.heap.size w w14 := hb012.trans (hb1214.mono hb012.size)
    have hb314 : Below w3.heap.size w3 w14 := hb312.trans (hb1214.mono hb312.size)
    have hg14 := hg12.below hb1214
    have hs1214 := hb1214.size
    clear hg12 hb012 hb312 hq14 hb1214 hnk
    go_wp2_with fail
    refine (markIntSS_any w4.heap.size w6.heap.size a6 R.length c6 rs6 1 w14 hg14 (by omega) (by omega) (by omega)).mono ?_
    rintro e w15 ⟨rs15, rfl, hg15, hrun15, ht15⟩
    rw [ht6]
    have hb015 : Below w.heap.size w w15 := hb014.trans (ht15.below hb014.size (fun k hk => by have := hb03.size; omega))
    have hb315 : Below w3.heap.size w3 w15 := hb314.trans (ht15.below hb314.size (fun k hk => by omega))
    have hs1415 := ht15.size
    have hlens := runs_lens hrun15
    have ht15' : total rs15 = 2 * R.length := by rw [total, hlens]; exact ht6
    have HRUN : Hid (rs15.map Hd.xs = runs 1 (rs6.map (·.xs.length)) ∧ rs15.map (·.xs.length) = rs6.map (·.xs.length)) := Lib.hid ⟨hrun15, hlens⟩
    have hgr := hg15.at.toMatRd
    clear hg14 hb014 hb314 ht15 hg15 hrun15 hlens
    generalize hT6 : 2 * R.length = T6
    rw [hT6] at ht6 ht15'
    have hT6' : T6 ≤ 8388608 := by omega
    clear hT6
    go_wp2_with fail
    refine (heldIntSS_any a6 R.length c6 rs15 _ 1 w15 hgr HRUN.out.1 HRUN.out.2 (by omega) (by omega) (by omega)).mono ?_
    rw [ht15']
    rintro e w16 ⟨rfl, rfl⟩
    have hnq : decide (1 + (T6 : Int) < 0) = false := by simp; omega
    have hqm : (1 + (T6 : Int) != 1 + (T6 : Int)) = false := by simp
    -- the second call
    go_wp2_with fail
    refine (toIntSS_any a len cap rows w15 (hin.later hb015) (by omega) HRL2.out).mono ?_
    rintro e w17 ⟨a17, c17, rs17, rfl, hm17, hx17, hb17⟩
    have HX17 := Lib.hid hx17
    have hat17 := hm17.at.toMatRd
    have hb017 : Below w.heap.size w w17 := hb015.trans (hb17.mono hb015.size)
    have hb317 : Below w3.heap.size w3 w17 := hb315.trans (hb17.mono hb315.size)
    have hgr17 := hgr.later hb17
    clear hx17 hm17 hb015 hb315 hb17 hgr
    go_wp2_with fail
    refine (implOrder_all a17 len c17 rs17 spare w17 hat17 (by omega)).mono ?_
    rw [HX17.out, HR.out, HK.out]
    rintro e w19 ⟨a19, n19, c19, rs19, rfl, hm19, hx19, hb19⟩
    have hb019 : Below w.heap.size w w19 := hb017.trans (hb19.mono hb017.size)
    have hb319 : Below w3.heap.size w3 w19 := hb317.trans (hb19.mono hb317.size)
    have hgr19 := hgr17.later hb19
    obtain rfl : n19 = R.length := by rw [← len_of_xs hx19]; exact hm19.at.length.symm
    have HX19 := Lib.hid hx19
    clear hat17 hb017 hb317 hgr17 hb19 hx19
    go_wp2_with fail
    refine (eqIntSS_quiet a19 a3 R.length c19 c3 rs19 rs3 w19 hm19.at.toMatRd (hw0.later hb319) (by rw [HX19.out, HX3.out]) (by omega) (lens_two HX19.out HR2.out)).mono ?_
    rintro e w20 ⟨rfl, hq20⟩
    have hb1920 : Below w19.heap.size w19 w20 := by obtain ⟨m, rfl⟩ := hq20; exact below_drewN (Below.refl _ _) m
    have hb020 : Below w.heap.size w w20 := hb019.trans (hb1920.mono hb019.size)
    have hgr20 := hgr19.later hb1920
    clear hm19 hb019 hb319 hgr19 hq20 hb1920
    go_wp2_with fail
    refine (heldIntSS_any a6 R.length c6 rs15 _ 1 w20 hgr20 HRUN.out.1 HRUN.out.2 (by omega) (by omega) (by omega)).mono ?_
    rw [ht15']
    rintro e w21 ⟨rfl, rfl⟩
    go_wp2
    go_ret
    exact ⟨rfl, hb020⟩

end Go.Proofs.Ythadaohnanpmiaa
