/-
  The program's walk down the tree of nearest dominators: the closure, and what it walks over.
-/
import Derived.Test.YtclihjgojmfjiaaDownSpec
import Derived.Test.YtclihjgojmfjiaaGroups
import Derived.Test.YtclihjgojmfjiaaVisits
namespace Go.Proofs.Ytclihjgojmfjiaa
open Go.RowKit

/-- The boxes of the closure and the list. -/
structure DV (w0 : World) (vb xb : Nat) (fv : Value) (L : List Int) (w : World) : Prop where
  below : Below w0.heap.size w0 w
  v : w.heap[vb]? = some (.cells #[fv] 104 (0, 0))
  o : ∃ oa oc, w.heap[xb]? = some (.cells #[.slice oa L.length oc] 36 (0, 0)) ∧ w.ownsRow w0.heap.size 3 1 (.slice oa L.length oc) L.length (L.map (Value.int .i64))
  lo : w0.heap.size ≤ vb ∧ w0.heap.size ≤ xb
theorem DV.push {w0 : World} {vb xb : Nat} {fv : Value} {L : List Int} {w w' : World} {oa a' : Option Addr} {oc c' : Nat} {x : Int} (h : DV w0 vb xb fv L w) (h2 : w.ownsRow w0.heap.size 3 1 (.slice oa L.length oc) L.length (L.map (Value.int .i64)))
    (hx : w.heap[xb]? = some (.cells #[.slice oa L.length oc] 36 (0, 0))) (o : Obj)
    (hr : w'.ownsRow w0.heap.size 3 1 (.slice a' (L.length + 1) c') (L.length + 1) (L.map (Value.int .i64) ++ [x].map (Value.int .i64))) (hg0 : (w.alloc o).grownBy w' (Value.slice oa L.length oc).ownBlock) :
    w'.heap[xb]? = some (.cells #[.slice oa L.length oc] 36 (0, 0)) ∧ DV w0 vb xb fv (L ++ [x]) (w'.setCell ⟨xb, 0, none⟩ (.slice a' (L.length + 1) c')) := by
  have hg : w.grownBy w' (Value.slice oa L.length oc).ownBlock := (World.grownBy_alloc _ _ _).trans hg0
  have keep : ∀ {k : Nat} {C' : Array Value} {t : TypeId}, w.heap[k]? = some (.cells C' t (0, 0)) → t ≠ 3 → w'.heap[k]? = some (.cells C' t (0, 0)) := fun {k C' t} hk ht =>
    (hg.block k (Array.getElem?_eq_some_iff.1 hk).1 (fun e => by
      obtain ⟨cur, hc⟩ := own_type h2 e.symm
      rw [hk] at hc
      simp at hc
      exact ht hc.2)).trans hk
  have hx' := keep hx (by decide)
  have ne : ∀ {k : Nat} {C' : Array Value} {t : TypeId}, w'.heap[k]? = some (.cells C' t (0, 0)) → t ≠ 36 → (w'.setCell ⟨xb, 0, none⟩ (.slice a' (L.length + 1) c')).heap[k]? = some (.cells C' t (0, 0)) := fun {k _ _} hk ht => by
    rw [heap_setCell_other w' _ _ _ (fun e => by
      have e' : k = xb := e
      subst e'
      rw [hx'] at hk
      simp at hk
      exact ht hk.2.symm)]
    exact hk
  have hts : Turned (fun k => k = xb) w' (w'.setCell ⟨xb, 0, none⟩ (.slice a' (L.length + 1) c')) := ⟨rfl, rfl, rfl, by rw [World.size_setCell]; exact Nat.le_refl _, fun j _ hj => heap_setCell_other w' _ j _ (fun e => hj e)⟩
  refine ⟨hx', ⟨?_, ne (keep h.v (by decide)) (by decide), ⟨a', c', ?_, ?_⟩, h.lo⟩⟩
  · exact (h.below.trans ((Below.refl _ _).grown hg h.below.size (fun j hj => (h2.lt j hj).1))).setCell (by show w0.heap.size ≤ xb; exact h.lo.2) _
  · rw [heap_setCell_same w' xb 0 _ _ _ hx']
    simp
  · have := own_turned hr hts (fun k hk e2 => by
      obtain ⟨cur2, hc⟩ := own_type hr hk
      rw [e2, hx'] at hc
      simp at hc)
    simpa using this

def fvD (xb mx vb : Nat) : Value := .func (.func 103) #[] #[.pointer (some ⟨xb, 0, none⟩), .pointer (some ⟨mx, 0, none⟩), .pointer (some ⟨vb, 0, none⟩)]

set_option maxRecDepth 100000 in
set_option maxHeartbeats 4000000 in
theorem order1_any (p : Nat → Int) (n : Nat) (hn : n ≤ 1048576) (w0 : World) (mx M : Nat) (hmx : w0.cell? ⟨mx, 0, none⟩ = some (.map (some M))) (G : Int → List Int) (hG : GroupsAt w0 M n G) (hGk : ∀ b : Int, 0 ≤ b → G b = kidL p n b) (vb xb : Nat) : ∀ (f : Nat) (b : Int) (L : List Int) (w : World),
    DV w0 vb xb (fvD xb mx vb) L w → DeepEnough p n f b → (0 ≤ b ∧ (Lit.int .i64 b).wf = true) → L.length + (down p n f b).length ≤ 1048576 →
    Calls Try.prog 103 #[.int .i64 b, .pointer (some ⟨xb, 0, none⟩), .pointer (some ⟨mx, 0, none⟩), .pointer (some ⟨vb, 0, none⟩)] w fun e w' =>
      e = .returned (.tuple #[]) ∧ DV w0 vb xb (fvD xb mx vb) (L ++ down p n f b) w' := by
  intro f
  induction f with
  | zero => intro b L w _ hd; exact hd.elim
  | succ f ih =>
    intro b L w hV hd hwf hcap
    have hen : ∀ v W, (callFunc 103 (#[v] ++ #[.pointer (some ⟨xb, 0, none⟩), .pointer (some ⟨mx, 0, none⟩), .pointer (some ⟨vb, 0, none⟩)])).run Try.prog W = .ok (.enter 103 (#[v] ++ #[.pointer (some ⟨xb, 0, none⟩), .pointer (some ⟨mx, 0, none⟩), .pointer (some ⟨vb, 0, none⟩)])) W := fun _ _ => rfl
    have hbsz := hV.below.size
    have hol : L.length ≤ 1048576 := by omega
    have hKl : (kidL p n b).length ≤ n := filtTo_len (fun i => p i == b) n
    obtain ⟨oa, oc, hxw, hown⟩ := hV.o
    have hxc : w.cell? ⟨xb, 0, none⟩ = some (.slice oa L.length oc) := cell_of_row _ _ 0 _ _ _ hxw
    have HS := Lib.hid (And.intro hd (And.intro hcap (And.intro hwf (And.intro hV (And.intro hxw hown)))))
    have hxl : xb < w.heap.size := (Array.getElem?_eq_some_iff.1 hxw).1
    clear hd hcap hwf hV hxw
    go_enter Try.func103, Try.ntmps103
    go_wp2_with (at_builtin; refine app_ints rfl (.tmp 7) (.tmp 9) rfl w0.heap.size _ L.length _ rfl (hown.alloc _) _ 1 _ [b] rfl rfl (rowAt_one _ _ _) (by rintro ⟨⟩) (by omega) (by simp; omega) ?_; intro a5 c5 w5 hown5 hg5 hlies5; (obtain ⟨hx5, hV5⟩ := HS.out.2.2.2.1.push HS.out.2.2.2.2.2 HS.out.2.2.2.2.1 _ hown5 hg5); (have hx5c : w5.cell? ⟨xb, 0, none⟩ = some (.slice oa L.length oc) := cell_of_row _ _ 0 _ _ _ hx5); (have hf5 : w5.frozen? ⟨xb, 0, none⟩ = false := frozen_of_row _ _ 0 _ _ hx5); (obtain ⟨la, lc, hlk, hlo⟩ := hG.lookLater hV5.below hn HS.out.2.2.1.2); (rw [hGk b HS.out.2.2.1.1] at hlk hlo); (have hmc := cell_later hV5.below hmx); (have HV5 := Lib.hid hV5); clear hV5 hx5 hown5 hg5 hlies5)
    have hlen0 : L ++ [b] = L ++ downTo p n f b 0 := by simp [downTo]
    rw [hlen0] at HV5
    clear hlen0
    generalize w5.setCell ⟨xb, 0, none⟩ (.slice a5 (L.length + 1) c5) = W1 at hlk hmc HV5 ⊢
    clear hlk hmc hx5c hf5 hxc hown
    go_loopg [15] (kidL p n b).length (fun F i wr => ∃ k : Nat, k + F = (kidL p n b).length ∧ i = .int .i64 k ∧ Hid (DV w0 vb xb (fvD xb mx vb) (L ++ downTo p n f b k) wr))
    case atStart => exact ⟨0, by omega, rfl, HV5⟩
    case round =>
      obtain ⟨k, hk, rfl, HK⟩ := hrel
      clear HV5
      by_cases hlt : k < (kidL p n b).length
      · obtain ⟨b2, off2, x, rfl, hxk, hcx⟩ := ((ints_of_own hlo).toIntsRd.later HK.out.below).place hlt
        obtain ⟨x1, x2, _⟩ := kidL_mem (List.mem_of_getElem? hxk)
        have hdx := HS.out.1 x (List.mem_of_getElem? hxk)
        have HN := Lib.hid (downTo_succ (f := f) hxk)
        have hwfx : 0 ≤ x ∧ (Lit.int .i64 x).wf = true := ⟨x1, WalkArith.wf_i64 (by omega)⟩
        have hcapx : (L ++ downTo p n f b k).length + (down p n f x).length ≤ 1048576 := by
          have h1 := downTo_le p n f b (k + 1)
          have h2 := HS.out.2.1
          rw [HN.out] at h1
          simp only [List.length_append] at h1 ⊢
          omega
        have hvx : wr.cell? ⟨vb, 0, none⟩ = some (fvD xb mx vb) := cell_of_row _ _ 0 _ _ _ HK.out.v
        unfold fvD at hvx
        have HF := Lib.hid (And.intro hdx (And.intro hwfx hcapx))
        clear hxk hdx hcapx hwfx x1 x2
        go_wp2_with fail
        refine (ih x (L ++ downTo p n f b k) wr HK.out HF.out.1 HF.out.2.1 HF.out.2.2).mono ?_
        rintro e w7 ⟨rfl, hV7⟩
        have HV7 := Lib.hid (show DV w0 vb xb (fvD xb mx vb) (L ++ downTo p n f b (k + 1)) w7 by rw [HN.out, ← List.append_assoc]; exact hV7)
        clear hV7 hvx hcx
        go_wp2
        go_roundg (gk - 1)
        case measure => omega
        case rel => exact ⟨k + 1, by omega, by go_num, HV7⟩
      · have hend : L ++ downTo p n f b k = L ++ down p n (f + 1) b := by rw [downTo_all (by omega)]
        have HE := Lib.hid hend
        clear hend
        go_wp2
        go_end0
        have h := HK.out
        rw [HE.out] at h
        exact ⟨rfl, h⟩

end Go.Proofs.Ytclihjgojmfjiaa
