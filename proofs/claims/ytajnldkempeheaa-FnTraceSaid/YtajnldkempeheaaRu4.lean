/-
  The program's run of a unit on the heap: the values of a block's phis.
-/
import Derived.Test.YtajnldkempeheaaRu3

namespace Go.Proofs.Ytajnldkempeheaa
open Go.RowKit
set_option linter.unusedVariables false
set_option linter.unusedSimpArgs false

/-- A function value that makes numbers of phis. -/
structure PhiFn (w : World) (f : Nat) (caps : Array Value) (ps : List PhiD) (q : PhiD → Int) : Prop where
  enter : ∀ v W, (callFunc f (#[v] ++ caps)).run Try.prog W = .ok (.enter f (#[v] ++ caps)) W
  calls : ∀ x ∈ ps, ∀ cs W, Below w.heap.size w W → PhiR W cs x → Calls Try.prog f (#[.agg cs.toArray] ++ caps) W fun e w' => e = .returned (.int .i64 (q x)) ∧ Below W.heap.size W w'

set_option maxRecDepth 100000 in
set_option maxHeartbeats 2000000 in
theorem mappedP_any (f : Nat) (caps : Array Value) (q : PhiD → Int) (a : Option Addr) (len cap : Nat) (ps : List PhiD) (w : World) (hin : SliceRd 2 PhiR w a len ps) (hf : PhiFn w f caps ps q) (hs : len ≤ 1048576) :
    Calls Try.prog 48 #[.slice a len cap, .func (.func f) #[] caps] w fun e w' => RetInts w (ps.map q) len e w' := by
  have hen := hf.enter
  have HL := Lib.hid hin.length
  go_enter Try.func48, Try.ntmps48
  go_wp2_with fail
  go_loopg [5, 10] len (fun F o i wr => ∃ k : Nat, k + F = len ∧ i = .int .i64 k ∧ ∃ oa oc, o = .slice oa k oc ∧ Hid (wr.ownsRow w.heap.size 3 1 (.slice oa k oc) k (((ps.map q).take k).map (Value.int .i64)) ∧ Below w.heap.size w wr))
  case atStart => exact ⟨0, by omega, rfl, none, 0, rfl, Lib.hid ⟨World.ownsRow_nil _ _ _ _, Below.refl _ _⟩⟩
  case round =>
    obtain ⟨k, hk, rfl, oa, oc, rfl, HK⟩ := hrel
    by_cases hlt : k < len
    · obtain ⟨b, off, ft, args, fa, fc, rfl, hx, c0, c1, hR⟩ := phi_place (hin.later phiR_lasts HK.out.2) hlt
      have hba : Below wr.heap.size wr (wr.alloc (.cells #[.int .i64 ft, .slice fa args.length fc] 78)) := (Below.refl _ _).alloc (Nat.le_refl _) _
      have HC := Lib.hid (show Calls Try.prog f (#[.agg #[.int .i64 ft, .slice fa args.length fc]] ++ caps) (wr.alloc (.cells #[.int .i64 ft, .slice fa args.length fc] 78)) (fun e w' => e = .returned (.int .i64 (q ⟨ft, args⟩)) ∧ Below (wr.alloc (.cells #[.int .i64 ft, .slice fa args.length fc] 78)).heap.size (wr.alloc (.cells #[.int .i64 ft, .slice fa args.length fc] 78)) w') from hf.calls _ (List.mem_of_getElem? hx) _ _ (HK.out.2.trans (hba.mono HK.out.2.size)) (phiR_lasts _ _ _ _ hba hR))
      have HX := Lib.hid (show (ps.map q)[k]? = some (q ⟨ft, args⟩) by rw [List.getElem?_map, hx]; rfl)
      have HB := Lib.hid (And.intro hba (ownsRow_below HK.out.1 hba))
      have hki : (k : Int) < (len : Int) := by omega
      clear hx hR hba
      go_wp2_with fail
      refine HC.out.mono ?_
      rintro e w1 ⟨rfl, hb1⟩
      have hb01 := HB.out.1.trans (hb1.mono HB.out.1.size)
      have hrow := ownsRow_below HK.out.1 hb01
      have hb := HK.out.2.trans (hb01.mono HK.out.2.size)
      have hsz := hb.size
      clear hb1 c0 c1 hb01
      generalize q ⟨ft, args⟩ = v at HX ⊢
      go_wp2_with (at_builtin; refine app_ints rfl (.tmp 14) (.tmp 18) rfl w.heap.size _ k _ rfl (hrow.alloc _) _ 1 _ [v] rfl rfl (rowAt_one _ _ _) (by rintro ⟨⟩) (by omega) (by simp only [World.size_alloc]; omega) ?_; intro a5 c5 w5 hown5 hg5 hlies5)
      have HN := Lib.hid (And.intro hown5 ((hb.alloc hsz _).grown hg5 (by simp only [World.size_alloc]; omega) (fun j hj => (hrow.lt j hj).1)))
      clear hown5 hg5 hlies5 hrow hb hsz
      go_roundg (gk - 1)
      case measure => omega
      case rel => exact ⟨k + 1, by omega, by go_num, a5, c5, rfl, Lib.hid (by rw [take_succ_of HX.out, List.map_append]; exact HN.out)⟩
    · obtain rfl : k = len := by omega
      have HE := Lib.hid (show (ps.map q).take k = ps.map q from List.take_of_length_le (by rw [List.length_map, HL.out]; omega))
      go_wp2
      go_ret
      have h := HK.out
      rw [HE.out] at h
      exact ⟨_, _, rfl, h.1, h.2⟩
set_option maxRecDepth 100000 in
set_option maxHeartbeats 2000000 in
/-- The value of a phi, when one comes from the block at the place pl. -/
theorem phiC_any {gx ax gb n pl r : Nat} {ft : Int} {args : List Int} {fa : Option Addr} {fc : Nat} {v : Int} (w : World) (c1 : w.cell? ⟨gx, 0, none⟩ = some (.slice (some ⟨gb, 0, none⟩) n n)) (c2 : w.cell? ⟨ax, 0, none⟩ = some (.int .i64 (pl : Int)))
    (hA : IntsRd w fa args.length args) (hL : args.length ≤ 1048576) (hr : args[pl]? = some (r : Int)) (hrn : r < n) (hn : n ≤ 300) (c4 : w.cell? ⟨gb, r, none⟩ = some (.int .i64 v)) :
    Calls Try.prog 49 #[.agg #[.int .i64 ft, .slice fa args.length fc], .pointer (some ⟨gx, 0, none⟩), .pointer (some ⟨ax, 0, none⟩)] w fun e w' => e = .returned (.int .i64 v) ∧ Below w.heap.size w w' := by
  have hpl := (List.getElem?_eq_some_iff.1 hr).1
  obtain ⟨ab, ao, x, rfl, hx, c3⟩ := hA.place hpl
  rw [hr] at hx
  cases hx
  have h1 : (pl : Int) < (args.length : Int) := by omega
  have h2 : (r : Int) < (n : Int) := by omega
  have hba : Below w.heap.size w (w.alloc (.cells #[.int .i64 ft, .slice (some ⟨ab, ao, none⟩) args.length fc] 78)) := (Below.refl _ _).alloc (Nat.le_refl _) _
  have d1 := cell_later hba c1
  have d2 := cell_later hba c2
  have d3 := cell_later hba c3
  have d4 := cell_later hba c4
  have d5 : (w.alloc (.cells #[.int .i64 ft, .slice (some ⟨ab, ao, none⟩) args.length fc] 78)).cell? ⟨w.heap.size, 1, none⟩ = some (.slice (some ⟨ab, ao, none⟩) args.length fc) := cell_of_row _ _ 1 _ _ _ (heap_alloc_new w _)
  clear hA c1 c2 c3 c4 hr
  go_enter Try.func49, Try.ntmps49
  go_upto_region 1 with fail
  generalize (w.alloc (.cells #[.int .i64 ft, .slice (some ⟨ab, ao, none⟩) args.length fc] 78)) = W1 at hba d1 d2 d3 d4 d5 ⊢
  go_quiet (fail)
  go_wp2
  go_ret
  exact ⟨rfl, below_drewN hba _⟩

end Go.Proofs.Ytajnldkempeheaa
