/-
  The reference's walk down the tree of nearest dominators.
-/
import Derived.Test.YtclihjgojmfjiaaDown
import Derived.Test.YtclihjgojmfjiaaRdInts
namespace Go.Proofs.Ytclihjgojmfjiaa
open Go.RowKit

/-- A list that a call has made longer: its own row, no other old block changed. -/
structure Grew (base : Nat) (ov : Value) (w : World) (L : List Int) (oa : Option Addr) (oc : Nat) (w' : World) : Prop where
  list : w'.ownsRow base 3 1 (.slice oa L.length oc) L.length (L.map (Value.int .i64))
  turned : Turned (fun k => ov.ownBlock = some k) w w'
  fresh : ∀ k, (Value.slice oa L.length oc).ownBlock = some k → ov.ownBlock = some k ∨ w.heap.size ≤ k
theorem Grew.step {base : Nat} {ov : Value} {w w1 w2 : World} {L L' : List Int} {oa oa' : Option Addr} {oc oc' : Nat} (h : Grew base ov w L oa oc w1) (k : Grew base (.slice oa L.length oc) w1 L' oa' oc' w2) : Grew base ov w L' oa' oc' w2 where
  list := k.list
  turned := ⟨k.turned.os.trans h.turned.os, k.turned.tape.trans h.turned.tape, k.turned.output.trans h.turned.output, Nat.le_trans h.turned.size k.turned.size, fun j hj hn => (k.turned.block j (Nat.lt_of_lt_of_le hj h.turned.size) (fun e => by
    rcases h.fresh j e with e | e
    · exact hn e
    · omega)).trans (h.turned.block j hj hn)⟩
  fresh := fun j hj => by
    rcases k.fresh j hj with e | e
    · exact h.fresh j e
    · exact .inr (Nat.le_trans h.turned.size e)
theorem Grew.later {base : Nat} {ov : Value} {w w1 w2 : World} {L : List Int} {oa : Option Addr} {oc : Nat} (h : Grew base ov w L oa oc w1) (hb : Below w1.heap.size w1 w2) : Grew base ov w L oa oc w2 :=
  ⟨ownsRow_below h.list hb, h.turned.trans (turned_of_below hb (fun k h1 h2 => by omega)), h.fresh⟩
theorem Grew.push {base : Nat} {w w5 : World} {L : List Int} {oa a5 : Option Addr} {oc c5 : Nat} {b : Int} (o : Obj)
    (hown : w5.ownsRow base 3 1 (.slice a5 (L.length + 1) c5) (L.length + 1) (L.map (Value.int .i64) ++ [b].map (Value.int .i64))) (hg : (w.alloc o).grownBy w5 (Value.slice oa L.length oc).ownBlock)
    (hl : (Value.slice a5 (L.length + 1) c5).ownBlock = (Value.slice oa L.length oc).ownBlock ∨ (Value.slice a5 (L.length + 1) c5).ownBlock = some (w.alloc o).heap.size) : Grew base (.slice oa L.length oc) w (L ++ [b]) a5 c5 w5 := by
  refine ⟨by rw [List.map_append, List.length_append]; exact hown, (turned_of_grown (World.grownBy_alloc _ _ none) (fun k hk => by cases hk)).trans (turned_of_grown hg (fun k hk => hk)), fun k hk => ?_⟩
  rw [List.length_append] at hk
  rcases hl with e | e
  · exact .inl (e.symm.trans hk)
  · have := e.symm.trans hk
    simp only [Option.some.injEq, World.size_alloc] at this
    exact .inr (by omega)
theorem Grew.below {base : Nat} {ov : Value} {w w1 : World} {L : List Int} {oa : Option Addr} {oc : Nat} (h : Grew base ov w L oa oc w1) (hs : base ≤ w.heap.size) (ho : ∀ k, ov.ownBlock = some k → base ≤ k) : Below base w w1 := h.turned.below hs ho

/-- What the walk has left behind k of the block's children. -/
def downTo (p : Nat → Int) (n f : Nat) (b : Int) (k : Nat) : List Int := b :: ((kidL p n b).take k).flatMap (down p n f)
theorem downTo_succ {p : Nat → Int} {n f : Nat} {b x : Int} {k : Nat} (h : (kidL p n b)[k]? = some x) : downTo p n f b (k + 1) = downTo p n f b k ++ down p n f x := by
  rw [downTo, take_succ_of h, List.flatMap_append]
  simp [downTo]
theorem downTo_all {p : Nat → Int} {n f : Nat} {b : Int} {k : Nat} (h : (kidL p n b).length ≤ k) : downTo p n f b k = down p n (f + 1) b := by
  rw [downTo, List.take_of_length_le h, down]
theorem downTo_le (p : Nat → Int) (n f : Nat) (b : Int) (k : Nat) : (downTo p n f b k).length ≤ (down p n (f + 1) b).length := by
  have h : (kidL p n b).flatMap (down p n f) = ((kidL p n b).take k).flatMap (down p n f) ++ ((kidL p n b).drop k).flatMap (down p n f) := by
    rw [← List.flatMap_append, List.take_append_drop]
  rw [downTo, down, h]
  simp

set_option maxRecDepth 100000 in
set_option maxHeartbeats 2000000 in
theorem l11Down_any (p : Nat → Int) (n : Nat) (xs : List Int) (hk : ∀ b, kidsOf xs b = kidL p n b) (hn : n ≤ 1048576) (a : Option Addr) (cap : Nat) (w0 : World) (hx : IntsRd w0 a xs.length xs) (hxl : xs.length ≤ 1048576) : ∀ (f : Nat) (b : Int) (out : List Int) (oa : Option Addr) (oc : Nat) (w : World),
    DeepEnough p n f b → Below w0.heap.size w0 w → w.ownsRow w0.heap.size 3 1 (.slice oa out.length oc) out.length (out.map (Value.int .i64)) → out.length + (down p n f b).length ≤ 1048576 →
    Calls Try.prog 71 #[.slice a xs.length cap, .int .i64 b, .slice oa out.length oc] w fun e w' =>
      ∃ oa' oc', e = .returned (.slice oa' (out ++ down p n f b).length oc') ∧ Grew w0.heap.size (.slice oa out.length oc) w (out ++ down p n f b) oa' oc' w' := by
  intro f
  induction f with
  | zero => intro b out oa oc w hd; exact hd.elim
  | succ f ih =>
    intro b out oa oc w hd hb hown hcap
    have hbsz := hb.size
    have hlo := hown.lt
    have hol : out.length ≤ 1048576 := by omega
    have HS := Lib.hid (And.intro hd (And.intro hcap (And.intro hb hlo)))
    have hKl : (kidL p n b).length ≤ 1048576 := by have := filtTo_len (fun i => p i == b) n; unfold kidL; omega
    clear hd hcap hb hlo
    go_enter Try.func71, Try.ntmps71
    go_wp2_with (at_builtin; refine app_ints rfl (.tmp 9) (.tmp 11) rfl w0.heap.size _ out.length _ rfl (hown.alloc _) _ 1 _ [b] rfl rfl (rowAt_one _ _ _) (by rintro ⟨⟩) (by omega) (by simp; omega) ?_; intro a5 c5 w5 hown5 hg5 hlies5)
    have HG5 := Lib.hid (Grew.push _ hown5 hg5 hlies5)
    clear hown5 hg5 hlies5
    have hb5 : Below w0.heap.size w0 w5 := HS.out.2.2.1.trans (HG5.out.below hbsz (fun k hk => (HS.out.2.2.2 k hk).1))
    have hs5 := hb5.size
    refine (l11Kids_any a cap xs b w5 (hx.later hb5) hxl).mono ?_
    rw [hk b]
    rintro e w6 ⟨a6, c6, rfl, hown6, hb6⟩
    have HL0 : Hid (out ++ [b] = out ++ downTo p n f b 0 ∧ Grew w0.heap.size (.slice oa out.length oc) w (out ++ [b]) a5 c5 w6 ∧ w6.ownsRow w5.heap.size 3 1 (.slice a6 (kidL p n b).length c6) (kidL p n b).length ((kidL p n b).map (Value.int .i64)) ∧ ∀ k, (Value.slice a6 (kidL p n b).length c6).ownBlock = some k → (Value.slice a5 (out ++ [b]).length c5).ownBlock ≠ some k) := by
      refine Lib.hid ⟨by simp [downTo], HG5.out.later hb6, hown6, fun k h1 h2 => ?_⟩
      have := (hown6.lt k h1).1
      have := (HG5.out.list.lt k h2).2
      omega
    clear hown6 hb6 HG5 hb5 hown
    go_wp2
    go_loopg [2, 8] (kidL p n b).length (fun F o i wr => ∃ (k : Nat) (L : List Int) (oa' : Option Addr) (oc' : Nat), i = .int .i64 k ∧ k + F = (kidL p n b).length ∧ o = .slice oa' L.length oc' ∧
      Hid (L = out ++ downTo p n f b k ∧ Grew w0.heap.size (.slice oa out.length oc) w L oa' oc' wr ∧ wr.ownsRow w5.heap.size 3 1 (.slice a6 (kidL p n b).length c6) (kidL p n b).length ((kidL p n b).map (Value.int .i64)) ∧ ∀ k, (Value.slice a6 (kidL p n b).length c6).ownBlock = some k → (Value.slice oa' L.length oc').ownBlock ≠ some k))
    case atStart => exact ⟨0, out ++ [b], a5, c5, rfl, by omega, by simp, HL0⟩
    case round =>
      obtain ⟨k, L, oa', oc', rfl, hkF, rfl, HK⟩ := hrel
      clear HL0
      by_cases hlt : k < (kidL p n b).length
      · obtain ⟨bb, boff, x, rfl, hxk, hcx⟩ := (ints_of_own HK.out.2.2.1).toIntsRd.place hlt
        have hbr : Below w0.heap.size w0 wr := HS.out.2.2.1.trans (HK.out.2.1.below hbsz (fun k hk => (HS.out.2.2.2 k hk).1))
        have hdx := HS.out.1 x (List.mem_of_getElem? hxk)
        have HN := Lib.hid (downTo_succ (f := f) hxk)
        have hcapx : L.length + (down p n f x).length ≤ 1048576 := by
          have h1 := downTo_le p n f b (k + 1)
          have h2 := HS.out.2.1
          rw [HN.out] at h1
          rw [HK.out.1]
          simp only [List.length_append] at h1 ⊢
          omega
        have HF := Lib.hid (And.intro hbr (And.intro hdx hcapx))
        clear hxk hbr hdx hcapx
        go_wp2_with fail
        refine (ih x L oa' oc' wr HF.out.2.1 HF.out.1 HK.out.2.1.list HF.out.2.2).mono ?_
        rintro e w7 ⟨oa7, oc7, rfl, hG7⟩
        have HN7 : Hid (L ++ down p n f x = out ++ downTo p n f b (k + 1) ∧ Grew w0.heap.size (.slice oa out.length oc) w (L ++ down p n f x) oa7 oc7 w7 ∧ w7.ownsRow w5.heap.size 3 1 (.slice (some ⟨bb, boff, none⟩) (kidL p n b).length c6) (kidL p n b).length ((kidL p n b).map (Value.int .i64)) ∧ ∀ k, (Value.slice (some ⟨bb, boff, none⟩) (kidL p n b).length c6).ownBlock = some k → (Value.slice oa7 (L ++ down p n f x).length oc7).ownBlock ≠ some k) := by
          refine Lib.hid ⟨by rw [HN.out, HK.out.1, List.append_assoc], HK.out.2.1.step hG7, own_turned HK.out.2.2.1 hG7.turned (fun k h1 => HK.out.2.2.2 k h1), fun k h1 h2 => ?_⟩
          rcases hG7.fresh k h2 with e | e
          · exact HK.out.2.2.2 k h1 e
          · have := (HK.out.2.2.1.lt k h1).2; omega
        clear hG7
        generalize L ++ down p n f x = L7 at HN7
        go_wp2
        go_roundg (gk - 1)
        case measure => omega
        case rel => exact ⟨k + 1, L7, oa7, oc7, by go_num, by omega, rfl, HN7⟩
      · have hend : out ++ downTo p n f b k = out ++ down p n (f + 1) b := by rw [downTo_all (by omega)]
        have HE := Lib.hid hend
        clear hend
        go_wp2
        go_ret
        have h := HK.out
        rw [HE.out] at h
        rw [← h.1]
        exact ⟨_, _, rfl, h.2.1⟩

end Go.Proofs.Ytclihjgojmfjiaa
