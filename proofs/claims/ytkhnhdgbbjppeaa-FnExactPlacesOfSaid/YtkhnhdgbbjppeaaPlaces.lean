
/-
  PlacesOf, the reference's and the program's.
-/
import Derived.Test.YtkhnhdgbbjppeaaSetsSpec
import Derived.Test.YtkhnhdgbbjppeaaRdInts
namespace Go.Proofs.Ytkhnhdgbbjppeaa
open Go.RowKit

def pr (p : Pl) : List Int := [p.1, p.2]
def placesP (us : List CodeD) (k r : Int) : List (List Int) := if regB us k r then ((us[k.toNat]?).map (fun c => ((codeSets c).getD r.toNat []).map pr)).getD [] else []
theorem placesP_of {us : List CodeD} {k n r : Nat} {c : CodeD} {ps : List Pl} (hv : regB us (k : Int) (r : Int) = true) (hx : us[k]? = some c) (hn : c.regs = (n : Int)) (h1 : (setsP n (evBl c.blocks c.blocks.length))[r]? = some ps) : placesP us k r = ps.map pr := by
  have h2 : codeSets c = setsP n (evBl c.blocks c.blocks.length) := by rw [codeSets, hn]; rfl
  rw [placesP, if_pos hv]
  simp only [Int.toNat_natCast]
  rw [hx]
  simp only [Option.map_some, Option.getD_some]
  rw [h2, List.getD_eq_getElem?_getD, h1]; rfl
theorem pr_two (ps : List Pl) : ∀ x ∈ ps.map pr, x.length = 2 := by
  intro x hx
  obtain ⟨p, _, rfl⟩ := List.mem_map.1 hx
  rfl
theorem placesP_two (us : List CodeD) (k r : Int) : ∀ x ∈ placesP us k r, x.length = 2 := by
  unfold placesP
  split
  · cases hk : us[k.toNat]? with
    | none => simp
    | some c => exact pr_two _
  · simp
theorem placesP_small {us : List CodeD} {k r : Int} (h : szS szCodeD us ≤ 1048576) : (placesP us k r).length ≤ 1048576 := by
  unfold placesP
  split
  · cases hk : us[k.toNat]? with
    | none => simp
    | some c =>
      have h1 := (szS_get (sz := szCodeD) h hk).1
      have h2 := evBl_small (bs := c.blocks) h1
      simp only [Option.map_some, Option.getD_some, List.length_map]
      rw [List.getD_eq_getElem?_getD]
      cases hg : (codeSets c)[r.toNat]? with
      | none => simp
      | some ps => have := setsP_small hg; simp; omega
  · simp

/-- The call returned a slice of slices that reads so; nothing that was there has changed. -/
def RdMat (w : World) (xss : List (List Int)) (n : Nat) (e : Ending) (w' : World) : Prop :=
  ∃ a cap rows, e = .returned (.slice a n cap) ∧ MatRd w' a n rows ∧ rows.map Hd.xs = xss ∧ Below w.heap.size w w'

/-! ### the program -/
theorem placesOf1_any (x y : Int) (w : World) : Calls Try.prog 67 #[.agg #[.int .i64 x, .int .i64 y]] w fun e w' => e = .returned (.slice (some ⟨w.heap.size + 1, 0, none⟩) 2 2) ∧ w' = (w.alloc (.cells #[.int .i64 x, .int .i64 y] 78)).alloc (.cells #[.int .i64 x, .int .i64 y] 3) := by
  go_enter Try.func67, Try.ntmps67
  go_wp2
  go_ret
  exact ⟨rfl, rfl⟩
theorem plcs_get {ps : List Pl} : ∀ {k : Nat} {p : Pl}, ps[k]? = some p → (plcs ps)[k * 2]? = some (.int .i64 p.1) ∧ (plcs ps)[k * 2 + 1]? = some (.int .i64 p.2) := by
  induction ps with
  | nil => intro k p h; simp at h
  | cons q ps ih =>
    intro k p h
    cases k with
    | zero => simp at h; subst h; exact ⟨rfl, rfl⟩
    | succ k =>
      have := ih (k := k) (p := p) (by simpa using h)
      have e : plcs (q :: ps) = .int .i64 q.1 :: .int .i64 q.2 :: plcs ps := rfl
      rw [e, show (k + 1) * 2 = k * 2 + 1 + 1 by omega, show k * 2 + 1 + 1 + 1 = k * 2 + 1 + 1 + 1 from rfl]
      simpa using this
theorem plcs_len (ps : List Pl) : (plcs ps).length = ps.length * 2 := by
  induction ps with
  | nil => rfl
  | cons q ps ih =>
    have e : plcs (q :: ps) = .int .i64 q.1 :: .int .i64 q.2 :: plcs ps := rfl
    rw [e]; simp [ih]; omega
theorem plc_place {w : World} {a : Option Addr} {ps : List Pl} (h : RowAt w a (plcs ps)) {k : Nat} (hk : k < ps.length) : ∃ b off p, a = some ⟨b, off, none⟩ ∧ ps[k]? = some p ∧ w.cell? ⟨b, off + k * 2, none⟩ = some (.int .i64 p.1) ∧ w.cell? ⟨b, off + k * 2 + 1, none⟩ = some (.int .i64 p.2) := by
  have hx : ps[k]? = some (ps[k]'hk) := List.getElem?_eq_getElem _
  obtain ⟨h1, h2⟩ := plcs_get hx
  rcases h with h0 | ⟨b, off, rfl, hc⟩
  · rw [h0] at h1; simp at h1
  · exact ⟨b, off, _, rfl, hx, hc _ _ h1, by rw [Nat.add_assoc]; exact hc _ _ h2⟩

set_option maxRecDepth 100000 in
set_option maxHeartbeats 2000000 in
theorem mapped_any (a : Option Addr) (cap : Nat) (ps : List Pl) (w : World) (hrow : RowAt w a (plcs ps)) (hs : ps.length ≤ 1048576) :
    Calls Try.prog 65 #[.slice a ps.length cap, .func (.func 67) #[] #[]] w fun e w' => RetMat w (ps.map pr) ps.length e w' := by
  have hen : ∀ v W, (callFunc 67 #[v]).run Try.prog W = .ok (.enter 67 #[v]) W := fun _ _ => rfl
  go_enter Try.func65, Try.ntmps65
  go_wp2
  go_loopg [5, 10] ps.length (fun F o i wr => ∃ k : Nat, k + F = ps.length ∧ i = .int .i64 k ∧ ∃ oa on oc, o = .slice oa on oc ∧ Hid (GathM w ((ps.take k).map pr) oa on oc wr))
  case atStart => exact ⟨0, by omega, rfl, _, _, _, rfl, Lib.hid (GathM.nil (Below.refl _ _))⟩
  case round =>
    obtain ⟨k, hk, rfl, oa, on, oc, rfl, HG⟩ := hrel
    by_cases hlt : k < ps.length
    · obtain ⟨b, off, p, rfl, hp, c0, c1⟩ := plc_place hrow hlt
      obtain ⟨x, y⟩ := p
      have d0 := cell_later HG.out.below c0
      have d1 := cell_later HG.out.below c1
      have HT := Lib.hid (show (ps.take (k + 1)).map pr = (ps.take k).map pr ++ [[x, y]] by rw [take_succ_of hp, List.map_append]; rfl)
      have hol : on ≤ 1048576 := by have := HG.out.len; simp at this; omega
      have hrowA := heap_alloc_new wr (.cells #[.int .i64 x, .int .i64 y] 78)
      have p0 : (wr.alloc (.cells #[.int .i64 x, .int .i64 y] 78)).cell? ⟨wr.heap.size, 0, none⟩ = some (.int .i64 x) := cell_of_row _ _ 0 _ _ _ hrowA
      have p1 : (wr.alloc (.cells #[.int .i64 x, .int .i64 y] 78)).cell? ⟨wr.heap.size, 1, none⟩ = some (.int .i64 y) := cell_of_row _ _ 1 _ _ _ hrowA
      have HGA := Lib.hid (HG.out.later ((Below.refl wr.heap.size wr).alloc (Nat.le_refl _) (.cells #[.int .i64 x, .int .i64 y] 78)))
      clear hp c0 c1 HG hrowA
      go_wp2_with fail
      generalize wr.alloc (.cells #[.int .i64 x, .int .i64 y] 78) = wa at HGA p0 p1 ⊢
      refine (placesOf1_any x y wa).mono ?_
      rintro e w2 ⟨rfl, rfl⟩
      have HGB := Lib.hid (HGA.out.later ((Below.refl wa.heap.size wa).alloc (Nat.le_refl _) (.cells #[.int .i64 x, .int .i64 y] 78)))
      have hsz : (wa.alloc (.cells #[.int .i64 x, .int .i64 y] 78)).heap.size = wa.heap.size + 1 := by simp
      clear d0 d1 p0 p1
      rw [← hsz]
      generalize wa.alloc (.cells #[.int .i64 x, .int .i64 y] 78) = wb at HGB ⊢
      clear hsz
      obtain ⟨rows, hm, hxs, hnd⟩ := HGB.out.mat
      have HM := Lib.hid (And.intro HGB.out.below (And.intro hm (And.intro hnd hxs)))
      have hszb := HGB.out.below.size
      clear hm hxs hnd HGA HGB
      go_wp2_with (at_builtin; refine app_row rfl (.tmp 14) (.tmp 18) rfl w.heap.size _ on _ rfl ((HM.out.2.1.alloc _).alloc _).own _ _ _ rfl (pair_row _ _ _) rfl (by omega) (by simp only [World.size_alloc]; omega) ?_; intro a5 c5 w5 hown5 hg5 hlies5)
      have HN := Lib.hid (GathM.push HM.out.1 HM.out.2.1 HM.out.2.2.1 hown5 hg5)
      clear hown5 hg5 hlies5
      go_roundg (gk - 1)
      case measure => omega
      case rel => exact ⟨k + 1, by omega, by go_num, a5, _, c5, rfl, Lib.hid (by have h1 := HN.out; rw [HM.out.2.2.2] at h1; rw [HT.out]; exact h1)⟩
    · obtain rfl : k = ps.length := by omega
      go_wp2
      go_ret
      have h1 := HG.out
      rw [List.take_length] at h1
      have h2 := h1.len
      rw [List.length_map] at h2
      rw [h2]
      exact h1.ret

set_option maxRecDepth 100000 in
set_option maxHeartbeats 2000000 in
theorem implPlacesOf_any (us : List CodeD) (ua : Option Addr) (uc : Nat) (k r : Int) (hsz : szS szCodeD us ≤ 1048576) (w : World) (hU : SliceRd 3 CodeR w ua us.length us) :
    Calls Try.prog 27 #[.agg #[.slice ua us.length uc], .int .i64 k, .int .i64 r] w fun e w' => RetMat w (placesP us k r) (placesP us k r).length e w' := by
  have hn2 : us.length ≤ 1048576 := Nat.le_trans (szS_len szCodeD us) hsz
  have hb0 : Below w.heap.size w (w.alloc (.cells #[.slice ua us.length uc] 29)) := (Below.refl _ _).alloc (Nat.le_refl _) _
  have hc0 : (w.alloc (.cells #[.slice ua us.length uc] 29)).cell? ⟨w.heap.size, 0, none⟩ = some (.slice ua us.length uc) := cell_of_row _ _ 0 _ _ _ (heap_alloc_new w _)
  have HC := Lib.hid (And.intro (regAt_any us ua uc k r hsz _ (hU.later codeR_lasts hb0)) (And.intro hb0 (And.intro hU hsz)))
  clear hU
  go_enter Try.func27, Try.ntmps27
  go_wp2_with fail
  refine HC.out.1.mono ?_
  cases hv : regB us k r with
  | false =>
    have HN := Lib.hid (show placesP us k r = [] by rw [placesP, hv]; rfl)
    clear hv
    rintro e w1 ⟨rfl, hb1⟩
    have HB1 := Lib.hid (HC.out.2.1.trans (hb1.mono HC.out.2.1.size))
    clear hb1
    go_wp2
    go_ret
    rw [HN.out]
    exact (GathM.nil HB1.out).ret
  | true =>
    have hv2 := hv
    rw [regB, Bool.and_eq_true] at hv2
    obtain ⟨hu, h0, hl⟩ := hasB_true.1 hv2.1
    obtain ⟨m, rfl⟩ : ∃ m : Nat, k = (m : Int) := ⟨k.toNat, by omega⟩
    have hm : m < us.length := by omega
    have hmi : (m : Int) < (us.length : Int) := hl
    rintro e w1 ⟨rfl, hb1⟩
    have hc1 := cell_later hb1 hc0
    have HB1 := Lib.hid (HC.out.2.1.trans (hb1.mono HC.out.2.1.size))
    obtain ⟨b1, o1, params, regs, blocks, ba, bc, rfl, hx, c0, c1, c2, hCR⟩ := code_place (HC.out.2.2.1.later codeR_lasts HB1.out) hm
    have hcb := unit_code hu hx
    have hin : inR regs r = true := by have h := hv2.2; rw [regsAt, Int.toNat_natCast, hx] at h; exact h
    obtain ⟨hr0, hr1⟩ := inR_iff.1 hin
    have hlim := (code_lims hcb).1
    have hlim : 0 ≤ regs ∧ regs ≤ 300 := hlim
    obtain ⟨rn, rfl⟩ : ∃ rn : Nat, r = (rn : Int) := ⟨r.toNat, by omega⟩
    obtain ⟨n, rfl⟩ : ∃ n : Nat, regs = (n : Int) := ⟨regs.toNat, by omega⟩
    have hrn : rn < n := by omega
    have hn : n ≤ 300 := by omega
    have hz := (szS_get (sz := szCodeD) HC.out.2.2.2 hx).1
    have HV := Lib.hid (And.intro hv (And.intro hx hz))
    have HQ := Lib.hid (placesOf_any _ ⟨params, (n : Int), blocks⟩ w1 n hCR hz rfl hn (setsOk_of hcb rfl))
    clear hb1 hc0 hb0 hv hv2 hu h0 hl hx hCR hz hcb hlim hin hr0
    go_wp2_with fail
    refine HQ.out.mono ?_
    rintro e w3 ⟨g, rfl, hS3⟩
    have HB3 := Lib.hid (HB1.out.trans (hS3.below.mono HB1.out.size))
    clear HQ
    obtain ⟨rows, ⟨ra, rc, rnn, rvs⟩, ps, hN, hrel, hrr, hps, hrn2, hrv, hrl, hgc, hgf, hown⟩ := hS3.get hrn
    have HPL := Lib.hid (show placesP us (m : Int) (rn : Int) = ps.map pr from placesP_of HV.out.1 HV.out.2.1 rfl hps)
    have hpl : ps.length ≤ 1048576 := by have h1 := setsP_small hps; have h2 := evBl_small (bs := blocks) HV.out.2.2; omega
    have hrn3 : rnn = ps.length := hrn2
    have hrv3 : rvs = plcs ps := hrv
    subst hrn3 hrv3
    have HR := Lib.hid (rowAt_of_own hown)
    have hgc2 : w3.cell? ⟨g, rn, none⟩ = some (.slice ra ps.length rc) := hgc
    clear hN hrel hrr hps hrn2 hrv hrl hgc hown hS3 hgf
    go_wp2_with fail
    refine (mapped_any ra rc ps w3 HR.out hpl).mono ?_
    rintro e w4 ⟨a4, c4, rows4, rfl, hm4, hx4, hb4⟩
    have HM4 := Lib.hid (And.intro hm4 (And.intro hx4 hb4))
    clear hm4 hx4 hb4
    go_wp2
    go_ret
    rw [HPL.out, List.length_map]
    exact ret_mat HM4.out.1 HM4.out.2.1 HM4.out.2.2 HB3.out

/-! ### the reference -/
theorem hds_of {w : World} {ps : List Pl} : ∀ {vs : List Value}, vs.length = ps.length → (∀ (k : Nat) v p, vs[k]? = some v → ps[k]? = some p → ∃ a, v = .slice (some ⟨a, 0, none⟩) 2 2 ∧ w.heap[a]? = some (.cells #[.int .i64 p.1, .int .i64 p.2] 3 (0, 0))) →
    ∃ hs : List Hd, hs.map Hd.val = vs ∧ hs.map Hd.xs = ps.map pr ∧ ∀ h ∈ hs, ∃ (b : Nat) (x y : Int), h = ⟨some ⟨b, 0, none⟩, 2, [x, y]⟩ ∧ w.heap[b]? = some (.cells #[.int .i64 x, .int .i64 y] 3 (0, 0)) := by
  induction ps with
  | nil => intro vs hl _; exact ⟨[], by simp at hl; rw [hl]; rfl, rfl, by simp⟩
  | cons p ps ih =>
    intro vs hl h
    cases vs with
    | nil => simp at hl
    | cons v vs =>
      obtain ⟨hs, h1, h2, h3⟩ := ih (vs := vs) (by simpa using hl) (fun k v p hv hp => h (k + 1) v p (by simpa using hv) (by simpa using hp))
      obtain ⟨a, rfl, ha⟩ := h 0 v p (by simp) (by simp)
      refine ⟨⟨some ⟨a, 0, none⟩, 2, pr p⟩ :: hs, by rw [List.map_cons, h1]; rfl, by rw [List.map_cons, List.map_cons, h2], fun x hx => ?_⟩
      rcases List.mem_cons.1 hx with rfl | hx
      · exact ⟨a, p.1, p.2, rfl, ha⟩
      · exact h3 x hx
theorem pair_rd {w : World} {b : Nat} {x y : Int} (h : w.heap[b]? = some (.cells #[.int .i64 x, .int .i64 y] 3 (0, 0))) : IntsRd w (some ⟨b, 0, none⟩) 2 [x, y] := by
  refine ⟨rfl, .inr ⟨b, 0, rfl, fun i v hv => ?_⟩⟩
  rw [cell_of_row w b (0 + i) _ _ _ h, Nat.zero_add]
  simpa using hv

section
variable {w : World} {ops : Array Oper} {rest : List Oper} {o : Oper} {a : Act} {Q : Exit → Act → World → Prop}
/-- append of rows onto rows of the call's own. -/
theorem app_rows (hgd : o.guard = none) (s x : Operand) (ho : o.op = .call { callee := .builtin .append, args := #[s, x], argTypes := #[33, 33] })
    (base : Nat) (v : Value) (n : Nat) (xs : List Value) (hs : a.eval s = v) (hown : w.ownsRow base 40 1 v n xs)
    (ao : Option Addr) (m c : Nat) (news : List Value) (hx : a.eval x = .slice ao m c) (hl : news.length = m) (hrow : RowAt w ao news) (hnil : ao = none → c = 0) (hone : ∀ u ∈ news, u.oneCell' = true)
    (hb : n + m ≤ 1099511627776) (hbase : base ≤ w.heap.size)
    (h : ∀ a' c' w', w'.ownsRow base 40 1 (.slice a' (n + m) c') (n + m) (xs ++ news) → w.grownBy w' v.ownBlock →
      ((Value.slice a' (n + m) c').ownBlock = v.ownBlock ∨ (Value.slice a' (n + m) c').ownBlock = some w.heap.size) → wpList Try.prog ops Q rest (a.put o.dst (.slice a' (n + m) c')) w') : wpList Try.prog ops Q (o :: rest) a w := by
  obtain ⟨i0, hi, hz0, hz1, hz2⟩ := info_parts info_ints
  exact wpList_append_any hgd s x 33 ho base 40 i0 (.slice none 0 0) 1 24 und_mat hi hz0 hz1 hz2 rfl (by decide) v n xs hs hown ao m c _ hx (by simpa using hl) hrow hnil hone (by unfold maxLen; omega) (by omega) hbase h
end

set_option maxRecDepth 100000 in
set_option maxHeartbeats 2000000 in
theorem specPlacesOf_any (us : List CodeD) (ua : Option Addr) (uc : Nat) (k r : Int) (hsz : szS szCodeD us ≤ 1048576) (w : World) (hU : SliceRd 3 CodeR w ua us.length us) :
    Calls Try.prog 26 #[.agg #[.slice ua us.length uc], .int .i64 k, .int .i64 r] w fun e w' => RdMat w (placesP us k r) (placesP us k r).length e w' := by
  have hn2 : us.length ≤ 1048576 := Nat.le_trans (szS_len szCodeD us) hsz
  have hb0 : Below w.heap.size w (w.alloc (.cells #[.slice ua us.length uc] 29)) := (Below.refl _ _).alloc (Nat.le_refl _) _
  have hc0 : (w.alloc (.cells #[.slice ua us.length uc] 29)).cell? ⟨w.heap.size, 0, none⟩ = some (.slice ua us.length uc) := cell_of_row _ _ 0 _ _ _ (heap_alloc_new w _)
  have HC := Lib.hid (And.intro (l13Reg_any us ua uc k r hsz _ (hU.later codeR_lasts hb0)) (And.intro hb0 (And.intro hU hsz)))
  clear hU
  go_enter Try.func26, Try.ntmps26
  go_wp2_with fail
  refine HC.out.1.mono ?_
  cases hv : regB us k r with
  | false =>
    have HN := Lib.hid (show placesP us k r = [] by rw [placesP, hv]; rfl)
    clear hv
    rintro e w1 ⟨rfl, hb1⟩
    have HB1 := Lib.hid (HC.out.2.1.trans (hb1.mono HC.out.2.1.size))
    clear hb1
    go_wp2
    go_ret
    rw [HN.out]
    have h := GathM.empty HB1.out
    obtain ⟨rows, hm, hx, hn⟩ := h.mat
    exact ⟨_, _, rows, rfl, hm.at.toMatRd, hx, h.below⟩
  | true =>
    have hv2 := hv
    rw [regB, Bool.and_eq_true] at hv2
    obtain ⟨hu, h0, hl⟩ := hasB_true.1 hv2.1
    obtain ⟨m, rfl⟩ : ∃ m : Nat, k = (m : Int) := ⟨k.toNat, by omega⟩
    have hm : m < us.length := by omega
    have hmi : (m : Int) < (us.length : Int) := hl
    rintro e w1 ⟨rfl, hb1⟩
    have hc1 := cell_later hb1 hc0
    have HB1 := Lib.hid (HC.out.2.1.trans (hb1.mono HC.out.2.1.size))
    obtain ⟨b1, o1, params, regs, blocks, ba, bc, rfl, hx, c0, c1, c2, hCR⟩ := code_place (HC.out.2.2.1.later codeR_lasts HB1.out) hm
    have hcb := unit_code hu hx
    have hin : inR regs r = true := by have h := hv2.2; rw [regsAt, Int.toNat_natCast, hx] at h; exact h
    obtain ⟨hr0, hr1⟩ := inR_iff.1 hin
    have hlim := (code_lims hcb).1
    have hlim : 0 ≤ regs ∧ regs ≤ 300 := hlim
    obtain ⟨rn, rfl⟩ : ∃ rn : Nat, r = (rn : Int) := ⟨r.toNat, by omega⟩
    obtain ⟨n, rfl⟩ : ∃ n : Nat, regs = (n : Int) := ⟨regs.toNat, by omega⟩
    have hrn : rn < n := by omega
    have hn : n ≤ 300 := by omega
    have hz := (szS_get (sz := szCodeD) HC.out.2.2.2 hx).1
    have HV := Lib.hid (And.intro hv (And.intro hx hz))
    have hbE : Below w1.heap.size w1 (w1.alloc (.cells #[] 40)) := (Below.refl _ _).alloc (Nat.le_refl _) _
    have hc1E := cell_later hbE hc1
    have c0E := cell_later hbE c0
    have c1E := cell_later hbE c1
    have c2E := cell_later hbE c2
    have HGE := Lib.hid (GathM.empty HB1.out)
    have HQ := Lib.hid (l13Sets_any _ ⟨params, (n : Int), blocks⟩ (w1.alloc (.cells #[] 40)) n (codeR_lasts _ _ _ _ hbE hCR) hz rfl hn (setsOk_of hcb rfl))
    clear hb1 hc0 hb0 hv hv2 hu h0 hl hx hCR hz hcb hlim hin hr0 hbE hc1 c0 c1 c2
    go_wp2_with fail
    obtain ⟨e0, he0⟩ : ∃ e, e = w1.heap.size := ⟨_, rfl⟩
    rw [← he0] at HGE ⊢
    clear he0
    generalize w1.alloc (.cells #[] 40) = wE at HGE HQ hc1E c0E c1E c2E ⊢
    refine HQ.out.mono ?_
    rintro e w3 ⟨g, rfl, hS3⟩
    have HG3 := Lib.hid (HGE.out.later hS3.below)
    clear hc1E c0E c1E c2E
    clear HQ
    obtain ⟨rows, ⟨ra, rc, rnn, rvs⟩, ps, hN, hrel, hrr, hps, hpr, hrl, hgc, hgf, hown⟩ := hS3.get hrn
    have HPL := Lib.hid (show placesP us (m : Int) (rn : Int) = ps.map pr from placesP_of HV.out.1 HV.out.2.1 rfl hps)
    have hpl : ps.length ≤ 1048576 := by have h1 := setsP_small hps; have h2 := evBl_small (bs := blocks) HV.out.2.2; omega
    have hrn3 : rnn = ps.length := hpr.n
    subst hrn3
    obtain ⟨hs, hs1, hs2, hs3⟩ := hds_of hpr.len hpr.cell
    have hs1 : hs.map Hd.val = rvs := hs1
    subst hs1
    have hsl : hs.length = ps.length := by have h := congrArg List.length hs2; simpa using h
    have HR := Lib.hid (And.intro (rowAt_of_own hown) (And.intro hs2 (And.intro hs3 (And.intro (fun hn : ra = none => (by subst hn; exact own_nil hown : rc = 0)) hsl))))
    have hgc2 : w3.cell? ⟨g, rn, none⟩ = some (.slice ra ps.length rc) := hgc
    clear hN hrel hrr hps hpr hrl hgc hown hgf hs2 hs3
    obtain ⟨rows0, hm0, hx0, hn0⟩ := HG3.out.mat
    have hr0 : rows0 = [] := by
      have h := HG3.out.len
      rw [← hx0] at h
      simp at hx0
      exact hx0
    subst hr0
    have hbw := HG3.out.below
    have hszw := hbw.size
    have HM := Lib.hid (And.intro hm0 (And.intro hbw hS3.below))
    clear hS3 hx0 hn0 hbw hm0
    go_wp2_with (at_builtin; refine app_rows rfl (.tmp 15) (.tmp 24) rfl w.heap.size _ 0 [] rfl HM.out.1.own _ ps.length _ (hs.map Hd.val) rfl (by rw [List.length_map]; exact HR.out.2.2.2.2) HR.out.1 HR.out.2.2.2.1 (by intro u hu; obtain ⟨h, _, rfl⟩ := List.mem_map.1 hu; rfl) (by omega) (by omega) ?_; intro a5 c5 w5 hown5 hg5 hlies5)
    have HW := Lib.hid (show Below w.heap.size w w5 ∧ w5.ownsRow w.heap.size 40 1 (.slice a5 (0 + ps.length) c5) (0 + ps.length) (hs.map Hd.val) ∧ w3.grownBy w5 (Value.slice (some ⟨e0, 0, none⟩) 0 0).ownBlock from ⟨HM.out.2.1.grown hg5 hszw (fun k hk => (HM.out.1.own.lt k hk).1), by simpa using hown5, hg5⟩)
    have HIN := Lib.hid (fun h (hh : h ∈ hs) => HR.out.2.2.1 h hh)
    clear hown5 hg5 hlies5
    go_wp2
    go_ret
    rw [HPL.out, List.length_map]
    have hz := HW.out
    rw [Nat.zero_add] at hz
    refine ⟨a5, c5, hs, rfl, ⟨HR.out.2.2.2.2, rowAt_of_own hz.2.1, fun h hh => ?_⟩, HR.out.2.1, hz.1⟩
    obtain ⟨b, x, y, rfl, hb⟩ := HIN.out h hh
    exact pair_rd (kept_of_grown HM.out.1.own (Below.refl _ _) hz.2.2 hb (by decide))

end Go.Proofs.Ytkhnhdgbbjppeaa
