/-
  The walk of the law FnExactDoMoves.
-/
import Derived.Test.YthadaohnanpmiaaDoMoves
import Derived.Test.YthadaohnanpmiaaLawSS
namespace Go.Proofs.Ythadaohnanpmiaa
open Go.RowKit

theorem total_of_xs {rows rows' : List Hd} (h : rows'.map Hd.xs = rows.map Hd.xs) : total rows' = total rows := by
  have e : ∀ rs : List Hd, total rs = ((rs.map Hd.xs).map List.length).sum := by intro rs; simp [total, Function.comp_def]
  rw [e, e, h]
theorem rowLens_of_xs {rows rows' : List Hd} (h : rows'.map Hd.xs = rows.map Hd.xs) {B : Nat} (hB : ∀ r ∈ rows, r.xs.length ≤ B) : ∀ r ∈ rows', r.xs.length ≤ B := by
  intro r hr
  have : r.xs ∈ rows.map Hd.xs := by rw [← h]; exact List.mem_map.2 ⟨r, hr, rfl⟩
  obtain ⟨r', hr', he⟩ := List.mem_map.1 this
  rw [← he]
  exact hB r' hr'

set_option maxHeartbeats 2000000 in
theorem fnExactDoMoves_walk (a : Option Addr) (len cap : Nat) (rows : List Hd) (a' : Option Addr) (n cap' : Nat) (zs : List Int) (w : World) (hrows : RowsIn w a len cap rows) (hrow : IsRow .i64 w a' n cap' zs) :
    Calls Try.prog 7 #[.slice a len cap, .slice a' n cap'] w fun e w' => e = .returned (.bool true) ∧ Below w.heap.size w w' := by
  have hin' := ints_of_row hrow
  generalize zs.take n = vals at hin'
  clear hrow
  by_cases hbig : 1048576 < n
  · go_enter Try.func7, Try.ntmps7
    go_wp2
    go_ret
    exact ⟨rfl, Below.refl _ _⟩
  · have hin := hrows.rd
    have HRL := Lib.hid hrows.rowLen
    have hlen := hrows.lenMax
    clear hrows
    go_enter Try.func7, Try.ntmps7
    go_wp2_with fail
    refine (szIntSS_any a len cap rows 1048576 w hin (by omega) (by omega) hlen HRL.out).mono ?_
    rintro e w' ⟨hsz, rfl⟩
    rcases hsz with ⟨hsz, rfl⟩ | ⟨hsz, rfl⟩
    · go_wp2
      go_ret
      exact ⟨rfl, Below.refl _ _⟩
    · have hneg : decide (1048576 - ((len + total rows : Nat) : Int) < 0) = false := by simp; omega
      have hll : len ≤ 1048576 := by omega
      have htot : total rows ≤ 1048576 := by omega
      have HRL2 : Hid (∀ r ∈ rows, r.xs.length ≤ 1099511627776) := Lib.hid (fun r hr => by have := total_mem hr; omega)
      have hnn : n ≤ 1048576 := by omega
      clear hlen HRL
      generalize (len + total rows : Nat) = tot at hneg hsz ⊢
      -- the reference's answer
      go_wp2_with fail
      refine (toIntSS_any a len cap rows w hin (by omega) HRL2.out).mono ?_
      rintro e w1 ⟨a1, c1, rs1, rfl, hm1, hx1, hb1⟩
      have hat1 := hm1.at.toMatRd
      have HX1 := Lib.hid hx1
      clear hx1 hm1 hneg
      go_wp2_with fail
      refine (toIntS_any a' n cap' vals w1 (hin'.later hb1) (by omega)).mono ?_
      rintro e w2 ⟨a2, c2, rfl, hown2, hb2⟩
      have hb02 : Below w.heap.size w w2 := hb1.trans (hb2.mono hb1.size)
      have hat2 := hat1.later hb2
      clear hat1 hb1 hb2
      go_wp2_with fail
      refine (specDoMoves_all a1 len c1 rs1 a2 n c2 vals w2 hat2 (ints_of_own hown2) (by omega) (by omega)).mono ?_
      rw [HX1.out]
      generalize hR : dmRes (rows.map Hd.xs) vals = R
      generalize hok : movesFit (rows.map Hd.xs) n = ok
      have hRl : R.length ≤ 1048576 := by have := dmRes_length (rows.map Hd.xs) vals; rw [hR] at this; have := hin'.length; omega
      have HR := Lib.hid hR
      have HK := Lib.hid hok
      clear hR hok
      rintro e w3 ⟨a3, c3, rfl, hown3, hb3⟩
      have hb03 : Below w.heap.size w w3 := hb02.trans (hb3.mono hb02.size)
      have hw0 := (ints_of_own hown3).toIntsRd
      clear hown3 hb3 hb02 hown2 hat2 HX1
      -- the arguments, anew
      go_wp2_with fail
      refine (toIntSS_any a len cap rows w3 (hin.later hb03) (by omega) HRL2.out).mono ?_
      rintro e w4 ⟨a4, c4, rs4, rfl, hm4, hx4, hb4⟩
      have HX4 := Lib.hid hx4
      have hb04 : Below w.heap.size w w4 := hb03.trans (hb4.mono hb03.size)
      clear hx4
      go_wp2_with fail
      refine (toIntS_any a' n cap' vals w4 (hin'.later hb04) (by omega)).mono ?_
      rintro e w5 ⟨a5, c5, rfl, hown5, hb5⟩
      have hb05 : Below w.heap.size w w5 := hb04.trans (hb5.mono hb04.size)
      have hb35 : Below w3.heap.size w3 w5 := hb4.trans (hb5.mono hb4.size)
      have hm5 := hm4.below hb5
      have hs45 := hb5.size
      have hs34 := hb4.size
      have hl5 := hown5.lt
      clear hm4 hb4 hb04 hb5
      go_wp2_with fail
      refine (implDoMoves_all a4 len c4 rs4 a5 n c5 vals w5 hm5.at.toMatRd (ints_of_own hown5) (by omega) (by omega)).mono ?_
      rw [HX4.out, HR.out, HK.out]
      rintro e w6 ⟨a6, c6, rfl, hown6, hb6⟩
      have hb06 : Below w.heap.size w w6 := hb05.trans (hb6.mono hb05.size)
      have hb36 : Below w3.heap.size w3 w6 := hb35.trans (hb6.mono hb35.size)
      have hm6 := hm5.below hb6
      have hx6 := ownsRow_below hown5 hb6
      have hl6 := hown6.lt
      have hs56 := hb6.size
      clear hm5 hown5 hb35 hb05 hb6
      go_wp2_with fail
      refine (eqIntS_quiet a6 a3 R.length c6 c3 R w6 (ints_of_own hown6).toIntsRd (hw0.later hb36) (by omega)).mono ?_
      rintro e w7 ⟨rfl, hq7⟩
      have hb67 : Below w6.heap.size w6 w7 := by obtain ⟨m, rfl⟩ := hq7; exact below_drewN (Below.refl _ _) m
      have hb07 : Below w.heap.size w w7 := hb06.trans (hb67.mono hb06.size)
      have hb37 : Below w3.heap.size w3 w7 := hb36.trans (hb67.mono hb36.size)
      have hm7 := hm6.below hb67
      have hx7 := ownsRow_below hx6 hb67
      have hown7 := ownsRow_below hown6 hb67
      have hs67 := hb67.size
      clear hm6 hx6 hown6 hb06 hb36 hq7 hb67
      go_wp2_with fail
      refine (toIntSS_any a len cap rows w7 (hin.later hb07) (by omega) HRL2.out).mono ?_
      rintro e w8 ⟨a8, c8, rs8, rfl, hm8, hx8, hb8⟩
      have HX8 := Lib.hid hx8
      have hat8 := hm8.at.toMatRd
      have hb08 : Below w.heap.size w w8 := hb07.trans (hb8.mono hb07.size)
      have hb38 : Below w3.heap.size w3 w8 := hb37.trans (hb8.mono hb37.size)
      have hmm8 := hm7.below hb8
      have hxx8 := ownsRow_below hx7 hb8
      have hown8 := ownsRow_below hown7 hb8
      have hs78 := hb8.size
      clear hx8 hm8 hm7 hx7 hown7 hb07 hb37 hb8
      go_wp2_with fail
      refine (eqIntSS_quiet a4 a8 len c4 c8 rs4 rs8 w8 hmm8.at.toMatRd hat8 (by rw [HX4.out, HX8.out]) (by omega) (rowLens_of_xs HX4.out HRL2.out)).mono ?_
      rintro e w9 ⟨rfl, hq9⟩
      have hb89 : Below w8.heap.size w8 w9 := by obtain ⟨m, rfl⟩ := hq9; exact below_drewN (Below.refl _ _) m
      have hb09 : Below w.heap.size w w9 := hb08.trans (hb89.mono hb08.size)
      have hb39 : Below w3.heap.size w3 w9 := hb38.trans (hb89.mono hb38.size)
      have hm9 := hmm8.below hb89
      have hx9 := ownsRow_below hxx8 hb89
      have hown9 := ownsRow_below hown8 hb89
      have hs89 := hb89.size
      clear hmm8 hxx8 hown8 hb08 hb38 hq9 hb89 hat8 HX8
      go_wp2_with fail
      refine (toIntS_any a' n cap' vals w9 (hin'.later hb09) (by omega)).mono ?_
      rintro e w10 ⟨a10, c10, rfl, hown10, hb10⟩
      have hi10 := (ints_of_own hown10).toIntsRd
      have hb010 : Below w.heap.size w w10 := hb09.trans (hb10.mono hb09.size)
      have hb310 : Below w3.heap.size w3 w10 := hb39.trans (hb10.mono hb39.size)
      have hm10 := hm9.below hb10
      have hx10 := ownsRow_below hx9 hb10
      have hg10 := ownsRow_below hown9 hb10
      have hs910 := hb10.size
      clear hm9 hx9 hown9 hb09 hb39 hown10 hb10
      go_wp2_with fail
      refine (eqIntS_quiet a5 a10 n c5 c10 vals w10 (ints_of_own hx10).toIntsRd hi10 (by omega)).mono ?_
      rintro e w11 ⟨rfl, hq11⟩
      have hb1011 : Below w10.heap.size w10 w11 := by obtain ⟨m, rfl⟩ := hq11; exact below_drewN (Below.refl _ _) m
      have hb011 : Below w.heap.size w w11 := hb010.trans (hb1011.mono hb010.size)
      have hb311 : Below w3.heap.size w3 w11 := hb310.trans (hb1011.mono hb310.size)
      have hm11 := hm10.below hb1011
      have hx11 := ownsRow_below hx10 hb1011
      have hg11 := ownsRow_below hg10 hb1011
      have hs1011 := hb1011.size
      clear hm10 hx10 hg10 hb010 hb310 hq11 hb1011 hi10
      -- the marks
      go_wp2_with fail
      refine (markIntSS_any w3.heap.size w4.heap.size a4 len c4 rs4 1 w11 hm11 (by omega) (by omega) (by have := total_of_xs HX4.out; omega)).mono ?_
      rintro e w12 ⟨rs12, rfl, hm12, _, ht12⟩
      have hb012 : Below w.heap.size w w12 := hb011.trans (ht12.below hb011.size (fun k hk => by have := hb03.size; omega))
      have hb312 : Below w3.heap.size w3 w12 := hb311.trans (ht12.below hb311.size (fun k hk => hk.1))
      have hx12 := own_turned hx11 ht12 (fun k hk hs => by have := (hx11.lt k hk).1; omega)
      have hg12 := own_turned hg11 ht12 (fun k hk hs => by have := (hg11.lt k hk).1; omega)
      have hs1112 := ht12.size
      have hneg12 : 0 ≤ total rs4 := Nat.zero_le _
      have htt : total rs4 ≤ 1048576 := by have := total_of_xs HX4.out; omega
      clear hm11 hx11 hg11 hb011 hb311 hm12 ht12
      generalize total rs4 = T at hneg12 htt
      go_wp2_with fail
      refine (markIntS_any w4.heap.size a5 n c5 _ (1 + (T : Int)) w12 hx12 (by omega) (by omega) (by omega)).mono ?_
      rintro e w13 ⟨rfl, hx13, hgr13⟩
      have ht13 := turned_of_grown hgr13 (S := fun k => w4.heap.size ≤ k ∧ k < w5.heap.size) (fun k hk => hl5 k hk)
      have hb013 : Below w.heap.size w w13 := hb012.trans (ht13.below hb012.size (fun k hk => by have := hb03.size; omega))
      have hb313 : Below w3.heap.size w3 w13 := hb312.trans (ht13.below hb312.size (fun k hk => by omega))
      have hg13 := own_turned hg12 ht13 (fun k hk hs => by have := (hg12.lt k hk).1; omega)
      have hs1213 := ht13.size
      clear hx12 hg12 hb012 hb312 hgr13 ht13 hx13
      have hnk : decide (1 + (T : Int) + (n : Int) < 0) = false := by simp; omega
      go_wp2_with fail
      refine (eqIntS_quiet a6 a3 R.length c6 c3 R w13 (ints_of_own hg13).toIntsRd (hw0.later hb313) (by omega)).mono ?_
      rintro e w14 ⟨rfl, hq14⟩
      have hb1314 : Below w13.heap.size w13 w14 := by obtain ⟨m, rfl⟩ := hq14; exact below_drewN (Below.refl _ _) m
      have hb014 : Below w.heap.size w w14 := hb013.trans (hb1314.mono hb013.size)
      have hb314 : Below w3.heap.size w3 w14 := hb313.trans (hb1314.mono hb313.size)
      have hg14 := ownsRow_below hg13 hb1314
      have hs1314 := hb1314.size
      clear hg13 hb013 hb313 hq14 hb1314 hnk
      go_wp2_with fail
      refine (markIntS_any w5.heap.size a6 R.length c6 _ 1 w14 hg14 (by omega) (by omega) (by omega)).mono ?_
      rintro e w15 ⟨rfl, hg15, hgr15⟩
      have ht15 := turned_of_grown hgr15 (S := fun k => w5.heap.size ≤ k ∧ k < w6.heap.size) (fun k hk => hl6 k hk)
      have hb015 : Below w.heap.size w w15 := hb014.trans (ht15.below hb014.size (fun k hk => by have := hb03.size; omega))
      have hb315 : Below w3.heap.size w3 w15 := hb314.trans (ht15.below hb314.size (fun k hk => by omega))
      have hs1415 := ht15.size
      clear hg14 hb014 hb314 hgr15 ht15
      have hgr := (ints_of_own hg15).toIntsRd
      go_wp2_with fail
      refine (heldIntS_any a6 R.length c6 1 w15 hgr (by omega) (by omega) (by omega)).mono ?_
      rintro e w16 ⟨rfl, rfl⟩
      have hnq : decide (1 + (R.length : Int) < 0) = false := by simp; omega
      have hqm : (1 + (R.length : Int) != 1 + (R.length : Int)) = false := by simp
      -- the second call
      go_wp2_with fail
      refine (toIntSS_any a len cap rows w15 (hin.later hb015) (by omega) HRL2.out).mono ?_
      rintro e w17 ⟨a17, c17, rs17, rfl, hm17, hx17, hb17⟩
      have HX17 := Lib.hid hx17
      have hat17 := hm17.at.toMatRd
      have hb017 : Below w.heap.size w w17 := hb015.trans (hb17.mono hb015.size)
      have hb317 : Below w3.heap.size w3 w17 := hb315.trans (hb17.mono hb315.size)
      have hgr17 := hgr.later hb17
      clear hx17 hm17 hb015 hb315 hb17 hgr hg15
      go_wp2_with fail
      refine (toIntS_any a' n cap' vals w17 (hin'.later hb017) (by omega)).mono ?_
      rintro e w18 ⟨a18, c18, rfl, hown18, hb18⟩
      have hat18 := hat17.later hb18
      have hb018 : Below w.heap.size w w18 := hb017.trans (hb18.mono hb017.size)
      have hb318 : Below w3.heap.size w3 w18 := hb317.trans (hb18.mono hb317.size)
      have hgr18 := hgr17.later hb18
      clear hat17 hb017 hb317 hgr17 hb18
      go_wp2_with fail
      refine (implDoMoves_all a17 len c17 rs17 a18 n c18 vals w18 hat18 (ints_of_own hown18) (by omega) (by omega)).mono ?_
      rw [HX17.out, HR.out, HK.out]
      rintro e w19 ⟨a19, c19, rfl, hown19, hb19⟩
      have hb019 : Below w.heap.size w w19 := hb018.trans (hb19.mono hb018.size)
      have hb319 : Below w3.heap.size w3 w19 := hb318.trans (hb19.mono hb318.size)
      have hgr19 := hgr18.later hb19
      clear hat18 hown18 hb018 hb318 hgr18 hb19
      go_wp2_with fail
      refine (eqIntS_quiet a19 a3 R.length c19 c3 R w19 (ints_of_own hown19).toIntsRd (hw0.later hb319) (by omega)).mono ?_
      rintro e w20 ⟨rfl, hq20⟩
      have hb1920 : Below w19.heap.size w19 w20 := by obtain ⟨m, rfl⟩ := hq20; exact below_drewN (Below.refl _ _) m
      have hb020 : Below w.heap.size w w20 := hb019.trans (hb1920.mono hb019.size)
      have hgr20 := hgr19.later hb1920
      clear hown19 hb019 hb319 hgr19 hq20 hb1920
      go_wp2_with fail
      refine (heldIntS_any a6 R.length c6 1 w20 hgr20 (by omega) (by omega) (by omega)).mono ?_
      rintro e w21 ⟨rfl, rfl⟩
      go_wp2
      go_ret
      exact ⟨rfl, hb020⟩

end Go.Proofs.Ythadaohnanpmiaa
