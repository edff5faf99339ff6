
/-
  How often registers are used: the reference's walk.
-/
import Derived.Test.YtonlidgmfmgcmaaGreatUses
import Derived.StillTailTactics
namespace Go.Proofs.YtonlidgmfmgcmaaGreat
open Go.RowKit

/-- The counts of the numbers L, in a row of the call's own. -/
structure Cnt (lo g n : Nat) (L : List Int) (w wr : World) : Prop where
  own : wr.ownsRow lo 3 1 (.slice (some ⟨g, 0, none⟩) n n) n ((bumps n L).map (Value.int .i64))
  below : Below lo w wr
  lo : lo ≤ g
theorem Cnt.later {lo g n : Nat} {L : List Int} {w wr w' : World} (h : Cnt lo g n L w wr) (hb : Below wr.heap.size wr w') : Cnt lo g n L w w' :=
  ⟨ownsRow_below h.own hb, h.below.trans (hb.mono (by have := h.own.lt g rfl; omega)), h.lo⟩
theorem Cnt.drew {lo g n : Nat} {L : List Int} {w wr : World} (h : Cnt lo g n L w wr) : Cnt lo g n L w wr.drew := ⟨h.own.drew, h.below.drew, h.lo⟩
theorem Cnt.put {lo g n : Nat} {L : List Int} {w wr : World} (h : Cnt lo g n L w wr) (r : Nat) {x : Int} (hx : (bumps n L).getD r 0 = x) : Cnt lo g n (L ++ [(r : Int)]) w (wr.setCell ⟨g, r, none⟩ (.int .i64 (x + 1))) := by
  refine ⟨?_, h.below.setCell h.lo _, h.lo⟩
  have h1 := (h.own.stored r (.int .i64 (x + 1))).1
  rw [bumps_snoc, bump, Int.toNat_natCast, hx, List.map_set]
  exact h1
theorem Cnt.get {lo g n : Nat} {L : List Int} {w wr : World} (h : Cnt lo g n L w wr) {r : Nat} (hr : r < n) : ∃ x : Int, wr.cell? ⟨g, r, none⟩ = some (.int .i64 x) ∧ wr.frozen? ⟨g, r, none⟩ = false ∧ (bumps n L).getD r 0 = x ∧ 0 ≤ x ∧ x ≤ L.length := by
  obtain ⟨x, h1, h2, h3, h4⟩ := bumps_get (n := n) L (r := (r : Int)) (by omega) (by omega)
  rw [Int.toNat_natCast] at h1 h2
  refine ⟨x, ?_, h.own.frozenAt r, h2, h3, h4⟩
  rw [h.own.cellAt r (by omega), List.getElem?_map, h1]; rfl
/-- The numbers that come next in a list of numbers below n. -/
structure Nxt (n : Nat) (A L : List Int) : Prop where
  pre : L <+: A
  small : A.length ≤ 1048576
  inn : ∀ r ∈ A, 0 ≤ r ∧ r < (n : Int)
theorem Nxt.head {n : Nat} {A L : List Int} {r : Int} (h : Nxt n A (L ++ [r])) : ∃ m : Nat, r = (m : Int) ∧ m < n ∧ L.length ≤ 1048576 := by
  have h1 := h.inn r (h.pre.subset (by simp))
  have h2 := h.pre.length_le
  have h3 := h.small
  simp at h2
  exact ⟨r.toNat, by omega, by omega, by omega⟩
theorem Nxt.part {n : Nat} {A L M : List Int} (h : Nxt n A L) (hM : M <+: L) : Nxt n A M := ⟨hM.trans h.pre, h.small, h.inn⟩
theorem prefix_take_flat {α : Type} {f : α → List Int} {xs : List α} {i : Nat} {x : α} (h : xs[i]? = some x) (L : List Int) : L ++ (xs.take i).flatMap f ++ f x <+: L ++ xs.flatMap f := by
  rw [List.append_assoc, ← flat_succ h]
  refine (List.prefix_append_right_inj _).2 ?_
  conv => rhs; rw [← List.take_append_drop (i + 1) xs, List.flatMap_append]
  exact List.prefix_append _ _
theorem prefix_take_one {xs : List Int} {i : Nat} {x : Int} (h : xs[i]? = some x) (L : List Int) : L ++ xs.take i ++ [x] <+: L ++ xs := by
  rw [List.append_assoc, ← take_succ_of h]
  exact (List.prefix_append_right_inj _).2 (List.take_prefix _ _)
theorem prefix_mid (L M N : List Int) : L ++ M <+: L ++ (M ++ N) := (List.prefix_append_right_inj _).2 (List.prefix_append _ _)
theorem Nxt.part1 {n : Nat} {A P Q : List Int} {fs : List PhiD} {is : List InsD} {j o : Int} {x : List Int} (h : Nxt n A (P ++ blockArgs ⟨fs, is, j, o, x⟩)) (hQ : Q <+: P ++ fs.flatMap (fun f => f.args)) : Nxt n A Q :=
  h.part (hQ.trans (by rw [blockArgs, List.append_assoc (phiArgs fs)]; exact prefix_mid P _ _))
theorem Nxt.part2 {n : Nat} {A P Q : List Int} {fs : List PhiD} {is : List InsD} {j o : Int} {x : List Int} (h : Nxt n A (P ++ blockArgs ⟨fs, is, j, o, x⟩)) {P2 : List Int} (hP2 : P2 = P ++ phiArgs fs) (hQ : Q <+: P2 ++ is.flatMap (fun f => f.args)) : Nxt n A Q :=
  h.part (hQ.trans (by rw [hP2, blockArgs, List.append_assoc P, List.append_assoc (phiArgs fs)]; exact ⟨onArgs ⟨fs, is, j, o, x⟩, by simp [insArgsL]⟩))
theorem szPhi_args {fs : List PhiD} {k : Nat} {tr : Int} {args : List Int} (h : szS szPhiD fs ≤ 1048576) (hx : fs[k]? = some ⟨tr, args⟩) : args.length ≤ 1048576 := (szS_get (sz := szPhiD) h hx).1
theorem szIns_args {is : List InsD} {k : Nat} {op tr num : Int} {args : List Int} (h : szS szInsD is ≤ 1048576) (hx : is[k]? = some ⟨op, tr, args, num⟩) : args.length ≤ 1048576 := (szS_get (sz := szInsD) h hx).1

end Go.Proofs.YtonlidgmfmgcmaaGreat
