/-
  Moves between registers: which lists are moves (program and reference), and DoMoves, one behind the other.
-/
import Derived.Test.YthadaohnanpmiaaFunc
namespace Go.Proofs.Ythadaohnanpmiaa
open Go.RowKit

/-! ### plain words -/
def isMove : List Int → Bool
  | [x, y] => decide (0 ≤ x ∧ x ≤ 299 ∧ 0 ≤ y ∧ y ≤ 299)
  | _ => false
def fitsIn (n : Nat) : List Int → Bool
  | [x, y] => decide (x < n ∧ y < n)
  | _ => false
def movesOk (xss : List (List Int)) : Bool := decide (xss.length ≤ 300) && xss.all isMove
/-- A list of moves, and all their registers have values. -/
def movesFit (xss : List (List Int)) (n : Nat) : Bool := movesOk xss && xss.all (fitsIn n)
def to (m : List Int) : Nat := (m.getD 0 0).toNat
def frm (m : List Int) : Nat := (m.getD 1 0).toNat
def stepSeq (out : List Int) (m : List Int) : List Int := out.set (to m) (out.getD (frm m) 0)
def doSeq (xss : List (List Int)) (vals : List Int) : List Int := xss.foldl stepSeq vals
theorem isMove_cases {m : List Int} (h : isMove m = true) : ∃ i j : Nat, m = [(i : Int), (j : Int)] ∧ i ≤ 299 ∧ j ≤ 299 := by
  match m, h with
  | [x, y], h =>
    simp only [isMove, decide_eq_true_eq] at h
    exact ⟨x.toNat, y.toNat, by rw [Int.toNat_of_nonneg (by omega), Int.toNat_of_nonneg (by omega)], by omega, by omega⟩
theorem doSeq_length (xss : List (List Int)) : ∀ vals, (doSeq xss vals).length = vals.length := by
  induction xss with
  | nil => intro vals; rfl
  | cons m xss ih => intro vals; show (doSeq xss (stepSeq vals m)).length = _; rw [ih]; simp [stepSeq]

/-! ### the walks -/
theorem within_yes (n lo hi : Int) (w : World) (h : lo ≤ n ∧ n ≤ hi) : Calls Try.prog 64 #[.int .i64 n, .int .i64 lo, .int .i64 hi] w fun e w' => e = .returned (.bool true) ∧ w = w' := by
  obtain ⟨h1, h2⟩ := h
  go_enter Try.func64, Try.ntmps64
  go_wp2
  go_ret
  exact ⟨rfl, rfl⟩
theorem within_no (n lo hi : Int) (w : World) (h : ¬ (lo ≤ n ∧ n ≤ hi)) : Calls Try.prog 64 #[.int .i64 n, .int .i64 lo, .int .i64 hi] w fun e w' => e = .returned (.bool false) ∧ w = w' := by
  by_cases h1 : lo ≤ n
  · have h2 : ¬ n ≤ hi := fun h2 => h ⟨h1, h2⟩
    clear h
    go_enter Try.func64, Try.ntmps64
    go_wp2
    go_ret
    exact ⟨rfl, rfl⟩
  · clear h
    have hd : decide (lo ≤ n) = false := by simpa using h1
    go_enter Try.func64, Try.ntmps64
    go_wp2
    go_ret
    exact ⟨rfl, rfl⟩
theorem l1In_yes (n lo hi : Int) (w : World) (h : lo ≤ n ∧ n ≤ hi) : Calls Try.prog 63 #[.int .i64 n, .int .i64 lo, .int .i64 hi] w fun e w' => e = .returned (.bool true) ∧ w = w' := by
  obtain ⟨h1, h2⟩ := h
  go_enter Try.func63, Try.ntmps63
  go_wp2
  go_ret
  exact ⟨rfl, rfl⟩
theorem l1In_no (n lo hi : Int) (w : World) (h : ¬ (lo ≤ n ∧ n ≤ hi)) : Calls Try.prog 63 #[.int .i64 n, .int .i64 lo, .int .i64 hi] w fun e w' => e = .returned (.bool false) ∧ w = w' := by
  by_cases h1 : lo ≤ n
  · have h2 : ¬ n ≤ hi := fun h2 => h ⟨h1, h2⟩
    clear h
    go_enter Try.func63, Try.ntmps63
    go_wp2
    go_ret
    exact ⟨rfl, rfl⟩
  · clear h
    have hd : decide (lo ≤ n) = false := by simpa using h1
    go_enter Try.func63, Try.ntmps63
    go_wp2
    go_ret
    exact ⟨rfl, rfl⟩

/-- The cells of a list of two. -/
theorem two_cells {w : World} {a : Option Addr} {x y : Int} (h : IntsRd w a 2 [x, y]) : ∃ b off, a = some ⟨b, off, none⟩ ∧ w.cell? ⟨b, off, none⟩ = some (.int .i64 x) ∧ w.cell? ⟨b, off + 1, none⟩ = some (.int .i64 y) := by
  obtain ⟨b, off, z, rfl, hz, hc⟩ := h.place (show 0 < 2 by omega)
  exact ⟨b, off, rfl, h.cell (i := 0) rfl, h.cell (i := 1) rfl⟩

set_option maxHeartbeats 400000 in
theorem areMovesFn_any (ai : Option Addr) (ci : Nat) (xs : List Int) (w : World) (hin : IntsRd w ai xs.length xs) :
    Calls Try.prog 75 #[.slice ai xs.length ci] w fun e w' => e = .returned (.bool (!isMove xs)) ∧ w = w' := by
  by_cases hl : xs.length = 2
  · match xs, hl with
    | [x, y], _ =>
      obtain ⟨b, off, rfl, hc0, hc1⟩ := two_cells hin
      have h2 : (((2 : Nat) : Int) != 2) = false := by simp
      by_cases hx : 0 ≤ x ∧ x ≤ 299
      · by_cases hy : 0 ≤ y ∧ y ≤ 299
        · have hm : isMove [x, y] = true := by simp [isMove]; omega
          rw [hm]
          go_enter Try.func75, Try.ntmps75
          go_wp2_with fail
          refine (within_yes x 0 299 _ hx).mono ?_
          rintro e w1 ⟨rfl, rfl⟩
          go_wp2_with fail
          refine (within_yes y 0 299 _ hy).mono ?_
          rintro e w1 ⟨rfl, rfl⟩
          go_wp2
          go_ret
          exact ⟨rfl, rfl⟩
        · have hm : isMove [x, y] = false := by simp [isMove]; omega
          rw [hm]
          go_enter Try.func75, Try.ntmps75
          go_wp2_with fail
          refine (within_yes x 0 299 _ hx).mono ?_
          rintro e w1 ⟨rfl, rfl⟩
          go_wp2_with fail
          refine (within_no y 0 299 _ hy).mono ?_
          rintro e w1 ⟨rfl, rfl⟩
          go_wp2
          go_ret
          exact ⟨rfl, rfl⟩
      · have hm : isMove [x, y] = false := by simp [isMove]; omega
        rw [hm]
        go_enter Try.func75, Try.ntmps75
        go_wp2_with fail
        refine (within_no x 0 299 _ hx).mono ?_
        rintro e w1 ⟨rfl, rfl⟩
        go_wp2
        go_ret
        exact ⟨rfl, rfl⟩
  · have hm : isMove xs = false := by
      match xs, hl with
      | [], _ => rfl
      | [_], _ => rfl
      | [_, _], h => exact absurd rfl h
      | _ :: _ :: _ :: _, _ => rfl
    rw [hm]
    have h2 : ((xs.length : Int) != 2) = true := by rw [bne_iff_ne]; omega
    clear hl hm hin
    go_enter Try.func75, Try.ntmps75
    go_wp2
    go_ret
    exact ⟨rfl, rfl⟩

set_option maxHeartbeats 400000 in
theorem fitsFn_any (ai : Option Addr) (ci : Nat) (i j n bx : Nat) (w : World) (hin : IntsRd w ai 2 [(i : Int), (j : Int)]) (hbx : w.cell? ⟨bx, 0, none⟩ = some (.int .i64 n)) :
    Calls Try.prog 73 #[.slice ai 2 ci, .pointer (some ⟨bx, 0, none⟩)] w fun e w' => e = .returned (.bool (!fitsIn n [(i : Int), (j : Int)])) ∧ ∃ m, w' = w.drewN m := by
  obtain ⟨b, off, rfl, hc0, hc1⟩ := two_cells hin
  go_enter Try.func73, Try.ntmps73
  go_wp2
  go_quiet (fail)
  go_wp2
  all_goals go_ret
  all_goals exact ⟨ret_bool (by rw [Bool.eq_iff_iff]; simp [fitsIn]; omega), _, rfl⟩

theorem boolFn_areMoves (w : World) (rows : List Hd) (hrows : ∀ r ∈ rows, IntsRd w r.a r.xs.length r.xs) : BoolFn w 75 #[] rows (fun r => !isMove r.xs) :=
  ⟨fun _ _ => rfl, fun r hr W hW => (areMovesFn_any r.a r.cap r.xs W ((hrows r hr).later hW)).mono fun _ _ ⟨he, hw⟩ => ⟨he, by rw [← hw]; exact Below.refl _ _⟩⟩

theorem any_not {α : Type} (p : α → Bool) (l : List α) : (!l.any fun x => !p x) = l.all p := by
  induction l with
  | nil => rfl
  | cons x l ih => simp only [List.any_cons, List.all_cons, Bool.not_or, Bool.not_not, ih]

set_option maxHeartbeats 400000 in
theorem areMoves_any (a : Option Addr) (len cap : Nat) (rows : List Hd) (w : World) (hin : MatRd w a len rows) (hs : len ≤ 1099511627776) :
    Calls Try.prog 59 #[.slice a len cap] w fun e w' => e = .returned (.bool (movesOk (rows.map Hd.xs))) ∧ Below w.heap.size w w' := by
  have hl := hin.length
  by_cases h3 : len ≤ 300
  · have hv : (!rows.any fun r => !isMove r.xs) = movesOk (rows.map Hd.xs) := by
      rw [any_not (fun r : Hd => isMove r.xs), movesOk, List.length_map, hl, List.all_map]
      simp only [h3, decide_true, Bool.true_and]
      rfl
    have HV := Lib.hid hv
    clear hv hl
    go_enter Try.func59, Try.ntmps59
    go_wp2_with fail
    refine (containsFunc_any 75 #[] (fun r => !isMove r.xs) a len cap rows w hin (boolFn_areMoves w rows hin.rows) hs).mono ?_
    rintro e w1 ⟨rfl, hb1⟩
    go_wp2
    go_ret
    exact ⟨ret_bool HV.out, hb1⟩
  · have hv : movesOk (rows.map Hd.xs) = false := by
      rw [movesOk, List.length_map, hl]
      simp [h3]
    rw [hv]
    have hd : decide ((len : Int) ≤ 300) = false := by simp; omega
    clear hl hv
    go_enter Try.func59, Try.ntmps59
    go_wp2
    go_ret
    exact ⟨rfl, Below.refl _ _⟩

theorem boolFn_fits (w : World) (rows : List Hd) (n bx : Nat) (hrows : ∀ r ∈ rows, IntsRd w r.a r.xs.length r.xs) (hmv : ∀ r ∈ rows, isMove r.xs = true) (hbx : w.cell? ⟨bx, 0, none⟩ = some (.int .i64 n)) :
    BoolFn w 73 #[.pointer (some ⟨bx, 0, none⟩)] rows (fun r => !fitsIn n r.xs) := by
  refine ⟨fun _ _ => rfl, fun r hr W hW => ?_⟩
  obtain ⟨i, j, hij, _, _⟩ := isMove_cases (hmv r hr)
  have h1 := hrows r hr
  obtain ⟨ra, rc, rx⟩ := r
  simp only at hij h1
  subst hij
  exact (fitsFn_any ra rc i j n bx W (h1.later hW) (cell_later hW hbx)).mono fun _ _ ⟨he, m, hm⟩ => ⟨he, by rw [hm]; exact below_drewN (Below.refl _ _) m⟩

set_option maxHeartbeats 400000 in
theorem fitsValues_any (a : Option Addr) (len cap : Nat) (rows : List Hd) (n : Nat) (w : World) (hin : MatRd w a len rows) (hs : len ≤ 1099511627776) :
    Calls Try.prog 51 #[.slice a len cap, .int .i64 n] w fun e w' => e = .returned (.bool (movesFit (rows.map Hd.xs) n)) ∧ Below w.heap.size w w' := by
  have hmf : ∀ (fn : Fn) (first cap : Array Value) (w : World), (Instr.makeFunc fn first cap).run Try.prog w = .ok (.func fn first cap) w := fun _ _ _ _ => rfl
  have hb0 : Below w.heap.size w (w.alloc (.cells #[.int .i64 n] 3)) := (Below.refl _ _).alloc (Nat.le_refl _) _
  have hin0 := hin.later hb0
  have hbx0 : (w.alloc (.cells #[.int .i64 n] 3)).cell? ⟨w.heap.size, 0, none⟩ = some (.int .i64 n) := by rw [World.cell?_alloc_at _ _ _ _ rfl]; rfl
  by_cases hok : movesOk (rows.map Hd.xs) = true
  · have hmv : ∀ r ∈ rows, isMove r.xs = true := by
      intro r hr
      simp only [movesOk, Bool.and_eq_true, List.all_map, List.all_eq_true] at hok
      exact hok.2 r hr
    have hv : (!rows.any fun r => !fitsIn n r.xs) = movesFit (rows.map Hd.xs) n := by
      rw [any_not (fun r : Hd => fitsIn n r.xs), movesFit, hok, Bool.true_and, List.all_map]
      rfl
    have HV := Lib.hid hv
    have HM := Lib.hid hmv
    have HOK := Lib.hid hok
    have HB := Lib.hid hbx0
    clear hv hmv hok hbx0
    go_enter Try.func51, Try.ntmps51
    go_wp2_with fail
    refine (areMoves_any a len cap rows _ hin0 hs).mono ?_
    rw [HOK.out]
    rintro e w1 ⟨rfl, hb1⟩
    have hin1 := hin0.later hb1
    have hbx1 := cell_later hb1 HB.out
    have hb01 : Below w.heap.size w w1 := hb0.trans (hb1.mono hb0.size)
    have HB1 := Lib.hid hbx1
    clear hbx1 hb1 hin0 hb0
    go_wp2_with fail
    refine (containsFunc_any 73 #[.pointer (some ⟨w.heap.size, 0, none⟩)] (fun r => !fitsIn n r.xs) a len cap rows w1 hin1 (boolFn_fits w1 rows n w.heap.size hin1.rows HM.out HB1.out) hs).mono ?_
    rintro e w2 ⟨rfl, hb2⟩
    have hb02 : Below w.heap.size w w2 := hb01.trans (hb2.mono hb01.size)
    go_wp2
    go_ret
    exact ⟨ret_bool HV.out, hb02⟩
  · have hok' : movesOk (rows.map Hd.xs) = false := by simpa using hok
    have hv : movesFit (rows.map Hd.xs) n = false := by rw [movesFit, hok']; rfl
    rw [hv]
    have HOK := Lib.hid hok'
    clear hv hok hok' hbx0
    go_enter Try.func51, Try.ntmps51
    go_wp2_with fail
    refine (areMoves_any a len cap rows _ hin0 hs).mono ?_
    rw [HOK.out]
    rintro e w1 ⟨rfl, hb1⟩
    have hb01 : Below w.heap.size w w1 := hb0.trans (hb1.mono hb0.size)
    go_wp2
    go_ret
    exact ⟨rfl, hb01⟩

end Go.Proofs.Ythadaohnanpmiaa
