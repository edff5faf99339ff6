
/-
  A code read as a graph; the reference's test whether it is one.
-/
import Derived.Test.YtkhnhdgbbjppeaaUnitEq
import Derived.Test.YtkhnhdgbbjppeaaGraph
import Derived.Test.YtkhnhdgbbjppeaaApp
namespace Go.Proofs.Ytkhnhdgbbjppeaa
open Go.RowKit

/-- The blocks behind a slice lead to one another as g says. -/
structure Gr (w : World) (ba : Option Addr) (g : List (List Int)) : Prop where
  small : g.length + (g.map List.length).sum ≤ 1048576
  rd : ∃ bs : List BlockD, SliceRd 5 BlockR w ba bs.length bs ∧ g = bs.map (·.nx)
theorem Gr.later {w w' : World} {ba : Option Addr} {g : List (List Int)} (h : Gr w ba g) (hb : Below w.heap.size w w') : Gr w' ba g := by
  obtain ⟨h1, bs, h2, h3⟩ := h
  exact ⟨h1, bs, h2.later blockR_lasts hb, h3⟩
theorem Gr.place2 {w : World} {ba : Option Addr} {g : List (List Int)} (h : Gr w ba g) {i : Nat} (hi : i < g.length) :
    ∃ b off l na nc, ba = some ⟨b, off, none⟩ ∧ g[i]? = some l ∧ w.cell? ⟨b, off + i * 5 + 4, none⟩ = some (.slice na l.length nc) ∧ IntsRd w na l.length l ∧ (na = none → nc = 0) := by
  obtain ⟨_, bs, h2, rfl⟩ := h
  obtain ⟨b, off, phis, ins, jump, jon, nx, pa, pc, ia, ic, na, nc, rfl, hx, c0, c1, c2, c3, c4, hr⟩ := block_place h2 (i := i) (by simpa using hi)
  obtain ⟨_, _, _, _, _, _, hcs, _, _, ⟨_, hnil⟩, hrd⟩ := hr
  simp only [List.cons.injEq, Value.slice.injEq, and_true, true_and] at hcs
  obtain ⟨_, _, rfl, rfl⟩ := hcs
  exact ⟨b, off, nx, _, _, rfl, by rw [List.getElem?_map, hx]; rfl, c4, hrd, hnil⟩
theorem Gr.place {w : World} {ba : Option Addr} {g : List (List Int)} (h : Gr w ba g) {i : Nat} (hi : i < g.length) :
    ∃ b off l na nc, ba = some ⟨b, off, none⟩ ∧ g[i]? = some l ∧ w.cell? ⟨b, off + i * 5 + 4, none⟩ = some (.slice na l.length nc) ∧ IntsRd w na l.length l := by
  obtain ⟨b, off, l, na, nc, h1, h2, h3, h4, _⟩ := h.place2 hi
  exact ⟨b, off, l, na, nc, h1, h2, h3, h4⟩
theorem Gr.len {w : World} {ba : Option Addr} {g : List (List Int)} (h : Gr w ba g) : g.length ≤ 1048576 := by have := h.small; omega
theorem Gr.row {w : World} {ba : Option Addr} {g : List (List Int)} (h : Gr w ba g) {i : Nat} {l : List Int} (hl : g[i]? = some l) : l.length ≤ 1048576 := by
  have h1 := h.small
  have h2 : l.length ∈ g.map List.length := List.mem_map_of_mem (List.mem_of_getElem? hl)
  have h3 := sumOf_mem (sz := List.length) (List.mem_of_getElem? hl)
  unfold sumOf at h3
  omega
def nxs (x : CodeD) : List (List Int) := x.blocks.map (·.nx)
theorem nxs_sum : ∀ bs : List BlockD, ((bs.map (·.nx)).map List.length).sum ≤ sumOf szBlockD bs
  | [] => Nat.le_refl _
  | b :: bs => by
    have := nxs_sum bs
    unfold sumOf at this ⊢
    simp only [List.map_cons, List.sum_cons, szBlockD] at this ⊢
    omega
theorem gr_of_code {w : World} {cs : List Value} {x : CodeD} (h : CodeR w cs x) (hs : szCodeD x ≤ 1048576) : ∃ ba bc, cs = [.int .i64 x.params, .int .i64 x.regs, .slice ba (nxs x).length bc] ∧ Gr w ba (nxs x) := by
  obtain ⟨ba, bc, rfl, _, hr⟩ := h
  have hl : (nxs x).length = x.blocks.length := by simp [nxs]
  refine ⟨ba, bc, by rw [hl], ⟨?_, x.blocks, hr, rfl⟩⟩
  have := nxs_sum x.blocks
  unfold szCodeD szS at hs
  rw [hl]
  unfold nxs
  omega

theorem l1In_any (x lo hi : Int) (w : World) : Calls Try.prog 102 #[.int .i64 x, .int .i64 lo, .int .i64 hi] w fun e w' => e = .returned (.bool (decide (lo ≤ x) && decide (x ≤ hi))) ∧ w = w' := by
  by_cases h1 : lo ≤ x
  · have d1 : decide (lo ≤ x) = true := decide_eq_true h1
    by_cases h2 : x ≤ hi
    · have d2 : decide (x ≤ hi) = true := decide_eq_true h2
      go_enter Try.func102, Try.ntmps102
      go_wp2
      go_ret
      exact ⟨by rw [d1, d2]; rfl, rfl⟩
    · have d2 : decide (x ≤ hi) = false := decide_eq_false h2
      go_enter Try.func102, Try.ntmps102
      go_wp2
      go_ret
      exact ⟨rfl, rfl⟩
  · have d1 : decide (lo ≤ x) = false := decide_eq_false h1
    go_enter Try.func102, Try.ntmps102
    go_wp2
    go_ret
    exact ⟨rfl, rfl⟩
theorem l1In_same (x lo hi : Int) (w : World) : Calls Try.prog 102 #[.int .i64 x, .int .i64 lo, .int .i64 hi] w fun e w' => e = .returned (.bool (decide (lo ≤ x) && decide (x ≤ hi))) ∧ w' = w :=
  (l1In_any x lo hi w).mono fun _ _ ⟨he, hw⟩ => ⟨he, hw.symm⟩

set_option maxRecDepth 100000 in
set_option maxHeartbeats 1000000 in
theorem l10Fits_any (p r : Int) (ba : Option Addr) (bc : Nat) (g : List (List Int)) (w : World) (hg : Gr w ba g) :
    Calls Try.prog 69 #[.agg #[.int .i64 p, .int .i64 r, .slice ba g.length bc]] w fun e w' => e = .returned (.bool (fits g)) ∧ Below w.heap.size w w' := by
  have HW := Lib.hid ((Below.refl w.heap.size w).alloc (Nat.le_refl _) (.cells #[.int .i64 p, .int .i64 r, .slice ba g.length bc] 51))
  have hcl : (w.alloc (.cells #[.int .i64 p, .int .i64 r, .slice ba g.length bc] 51)).cell? ⟨w.heap.size, 2, none⟩ = some (.slice ba g.length bc) := cell_of_row _ _ 2 _ _ _ (heap_alloc_new w _)
  have HC := Lib.hid hcl
  have hlen := hg.len
  clear hcl
  go_enter Try.func69, Try.ntmps69
  go_wp2
  generalize w.alloc (.cells #[.int .i64 p, .int .i64 r, .slice ba g.length bc] 51) = W0 at HW HC ⊢
  have hg0 := hg.later HW.out
  go_loopw [3] (fun b wr => ∃ k : Nat, k ≤ g.length ∧ b = .int .i64 k ∧ Hid (∀ l ∈ g.take k, l.all (okN g.length) = true) ∧ Below W0.heap.size W0 wr) (fun b _ => g.length - (intOf b).toNat)
  case atStart => exact ⟨0, Nat.zero_le _, rfl, Lib.hid (by simp), Below.refl _ _⟩
  case round =>
    obtain ⟨k, hk, rfl, HK, hbr⟩ := hrel
    have hcr := cell_later hbr HC.out
    by_cases hlt : k < g.length
    · obtain ⟨b, off, l, na, nc, rfl, hl, hc4, hi⟩ := (hg0.later hbr).place hlt
      have hll := hg.row hl
      have HL := Lib.hid hl
      clear hl
      go_wp2
      go_loopw [4] (fun j ws => ∃ i : Nat, i ≤ l.length ∧ j = .int .i64 i ∧ Hid ((l.take i).all (okN g.length) = true) ∧ Below wr.heap.size wr ws) (fun j _ => l.length - (intOf j).toNat)
      case atStart => exact ⟨0, Nat.zero_le _, rfl, Lib.hid rfl, Below.refl _ _⟩
      case round =>
        obtain ⟨i, hil, rfl, HI, hbs⟩ := hrel
        have hcr2 := cell_later hbs hcr
        have hc42 := cell_later hbs hc4
        by_cases hlt2 : i < l.length
        · obtain ⟨b2, off2, x, rfl, hx, hcx⟩ := (hi.later hbs).place hlt2
          have HX := Lib.hid hx
          clear hx
          by_cases hok : okN g.length x = true
          · have hok2 := okN_iff.1 hok
            have d1 : decide ((0 : Int) ≤ x) = true := decide_eq_true hok2.1
            have d2 : decide (x ≤ (g.length : Int) - 1) = true := decide_eq_true (by omega)
            have HH := Lib.hid (And.intro HI.out (And.intro HX.out hok))
            clear hok hok2 HI HX
            go_wp2_with fail
            go_quiet (exact Calls.quiet_of_same (l1In_same _ _ _ _))
            go_wp2
            go_roundw
            case rel => exact ⟨i + 1, by omega, by go_num, Lib.hid (by rw [take_succ_of HH.out.2.1, List.all_append, HH.out.1, List.all_cons, HH.out.2.2]; rfl), below_drewN hbs _⟩
            case measure => simp [intOf]; omega
          · have hfalse : fits g = false := by
              cases hf : fits g with
              | false => rfl
              | true => exact absurd (okN_iff.2 ((fits_iff.1 hf).inn _ _ HL.out x (List.mem_of_getElem? HX.out))) hok
            have d0 : (decide ((0 : Int) ≤ x) && decide (x ≤ (g.length : Int) - 1)) = false := by simpa [okN] using hok
            have HF := Lib.hid hfalse
            clear hfalse hok
            go_wp2_with fail
            go_quiet (exact Calls.quiet_of_same (l1In_same _ _ _ _))
            go_wp2
            go_ret
            exact ⟨by rw [HF.out]; rfl, HW.out.trans (below_drewN ((hbr.trans (hbs.mono hbr.size)).mono HW.out.size) _)⟩
        · obtain rfl : i = l.length := by omega
          have HA := HI.out
          rw [List.take_length] at HA
          have HA2 := Lib.hid HA
          clear HA
          go_wp2
          go_roundw
          case rel => exact ⟨k + 1, by omega, by go_num, Lib.hid (by
            intro l2 hl2
            rw [take_succ_of HL.out] at hl2
            rcases List.mem_append.1 hl2 with h2 | h2
            · exact HK.out l2 h2
            · simp at h2; subst h2; exact HA2.out), hbr.trans (hbs.mono hbr.size)⟩
          case measure => simp [intOf]; omega
    · obtain rfl : k = g.length := by omega
      go_wp2
      go_ret
      have hk2 := HK.out
      rw [List.take_length] at hk2
      refine ⟨?_, HW.out.trans (hbr.mono HW.out.size)⟩
      have : g.all (fun l => l.all (okN g.length)) = true := List.all_eq_true.2 hk2
      refine ret_bool ?_
      rw [fits, this]
      simp

end Go.Proofs.Ytkhnhdgbbjppeaa
