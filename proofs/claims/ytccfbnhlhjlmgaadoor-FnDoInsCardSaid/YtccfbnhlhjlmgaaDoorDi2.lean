
/-
  FnDoIns: the reference draws an op and two values.
-/
import Derived.Test.YtccfbnhlhjlmgaaDoorDi
import Derived.Test.YtccfbnhlhjlmgaaDoorRd
import Derived.Test.YtccfbnhlhjlmgaaDoorNumbers
namespace Go.Proofs.YtccfbnhlhjlmgaaDoor
open Go.RowKit

theorem rowAt_laidE (w : World) (cs : List Value) (t : TypeId) : RowAt (w.alloc (.cells cs.toArray t)) (some ⟨w.heap.size, 0, none⟩) cs :=
  .inr ⟨_, _, rfl, fun i v hv => by
    rw [cell_of_row _ _ (0 + i) _ _ _ (heap_alloc_new w (.cells cs.toArray t))]
    simpa using hv⟩
theorem litE (w : World) (xs : List Int) : IntsRd (w.alloc (.cells (xs.map (Value.int .i64)).toArray 3)) (some ⟨w.heap.size, 0, none⟩) xs.length xs :=
  ⟨rfl, rowAt_laidE w _ _⟩
theorem IntsRd.blockE {w w' : World} {g n : Nat} {xs : List Int} (h : IntsRd w (some ⟨g, 0, none⟩) n xs) (hb : w'.heap[g]? = w.heap[g]?) : IntsRd w' (some ⟨g, 0, none⟩) n xs := by
  refine ⟨h.length, ?_⟩
  rcases h.row with h0 | ⟨b, off, he, h1⟩
  · exact .inl h0
  · cases he
    exact .inr ⟨g, 0, rfl, fun i v hv => (World.cell?_of_block hb).trans (h1 i v hv)⟩

set_option maxRecDepth 100000 in
set_option maxHeartbeats 2000000 in
theorem drawDoIns_any (w : World) (a : Option Addr) (len cap : Nat) (bs : List Int) (hin : BytesRd w a len bs) (hcap : len ≤ cap) :
    Calls Tryd.prog 14 #[.slice a len cap] w fun e w' => ∃ op x y : Int, e = .returned (.tuple #[.int .i64 op, .int .i64 x, .int .i64 y]) ∧ (-1 ≤ op ∧ op ≤ 15) ∧ Below w.heap.size w w' := by
  go_enter Tryd.func14, Tryd.ntmps14
  go_wp2_with fail
  refine (open_any w a len cap bs hin hcap).mono ?_
  rintro e w1 ⟨a1, len1, cap1, bs1, rfl, hrd1, hlen1, hsz1⟩
  clear hin hcap
  go_wp2_with fail
  refine (pick_any w w1 w.heap.size a1 len1 cap1 bs1 0 256 hrd1 (by omega) hlen1 (by omega)).mono ?_
  rintro e w2 ⟨v2, _, _, rfl, hrd2, _⟩
  have hlt2 := hrd2.lt
  have H2 := Lib.hid (And.intro (hrd2.alloc (.cells ([0, 1, 2, 15, 16, 255, v2, -1, 256].map (Value.int .i64)).toArray 3)) (And.intro (litE w2 [0, 1, 2, 15, 16, 255, v2, -1, 256]) hlt2))
  clear hrd1 hrd2 hsz1 hlt2
  go_wp2_with fail
  refine (pick_any w _ w.heap.size a1 len1 cap1 bs1 1 17 H2.out.1 (by omega) hlen1 (by omega)).mono ?_
  rintro e w3 ⟨v3, h30, h31, rfl, hrd3, hg3⟩
  have H3 := Lib.hid (And.intro hrd3 (H2.out.2.1.blockE (hg3.block _ (by rw [World.size_alloc]; omega) (fun e => by have h7 := Option.some.inj e; have := H2.out.2.2; omega))))
  have hv3 : IntKind.i64.wrap (v3 - 1) = v3 - 1 := IntWalk.i64_in _ (by omega)
  have hs3 := hg3.size
  rw [World.size_alloc] at hs3
  have HS3 := Lib.hid hs3
  clear hrd3 hg3 hs3
  go_wp2_with fail
  refine (num_any w w3 w.heap.size a1 len1 cap1 bs1 2 w2.heap.size 9 9 [0, 1, 2, 15, 16, 255, v2, -1, 256] H3.out.1 H3.out.2 (by have := H2.out.2.2; omega) (by omega) hlen1 (by omega)).mono ?_
  rintro e w4 ⟨x, -, rfl, hrd4, hg4⟩
  have H4 := Lib.hid (And.intro hrd4 (H3.out.2.blockE (hg4.block _ (by have := HS3.out; omega) (fun e => by have h7 := Option.some.inj e; have := H2.out.2.2; omega))))
  clear hrd4 hg4
  go_wp2_with fail
  refine (num_any w w4 w.heap.size a1 len1 cap1 bs1 3 w2.heap.size 9 9 [0, 1, 2, 15, 16, 255, v2, -1, 256] H4.out.1 H4.out.2 (by have := H2.out.2.2; omega) (by omega) hlen1 (by omega)).mono ?_
  rintro e w5 ⟨y, -, rfl, hrd5, _⟩
  have H5 := Lib.hid hrd5.below
  clear hrd5
  go_wp2
  refine bodyPost_ret (results_tmp3 rfl _ _ _) rfl ?_
  exact ⟨v3 - 1, x, y, rfl, by omega, H5.out⟩

end Go.Proofs.YtccfbnhlhjlmgaaDoor
