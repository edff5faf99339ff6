/-
  DomOrder, the reference's and the program's.
-/
import Derived.Test.YtclihjgojmfjiaaDownOrder
namespace Go.Proofs.Ytclihjgojmfjiaa
open Go.RowKit

theorem down_read {p : Nat → Int} {n f : Nat} {b : Int} {L : List Int} (hL : down p n f b = L) (hn : n ≤ 1048576) (hd : DeepEnough p n f b) (hl : L.length ≤ 1048576) (xs : List Int) (hk : ∀ b, kidsOf xs b = kidL p n b) (hxl : xs.length ≤ 1048576) (a : Option Addr) (cap : Nat) (w : World) (hx : IntsRd w a xs.length xs) :
    Calls Try.prog 71 #[.slice a xs.length cap, .int .i64 b, .slice (some ⟨w.heap.size, 0, none⟩) 0 0] (w.alloc (.cells #[] 3)) fun e w' => RdInts w L e w' := by
  refine (l11Down_any p n xs hk hn a cap w hx hxl f b [] (some ⟨w.heap.size, 0, none⟩) 0 _ hd ((Below.refl _ _).alloc (Nat.le_refl _) _) (own_empty w w.heap.size 3 1 (Nat.le_refl _)) (by rw [hL]; simpa using hl)).mono ?_
  rw [List.nil_append, hL]
  rintro e w3 ⟨a3, c3, rfl, hG3⟩
  exact ⟨_, _, rfl, (ints_of_own hG3.list).toIntsRd, ((Below.refl _ _).alloc (Nat.le_refl _) _).trans (hG3.below (by simp) (fun k hk => by cases hk; exact Nat.le_refl _))⟩
theorem l11Down_start (g : List (List Int)) (hF : Fits g) (hlen : g.length ≤ 1048576) (a : Option Addr) (cap : Nat) (w : World) (hx : IntsRd w a (idoms g).length (idoms g)) :
    Calls Try.prog 71 #[.slice a (idoms g).length cap, .int .i64 0, .slice (some ⟨w.heap.size, 0, none⟩) 0 0] (w.alloc (.cells #[] 3)) fun e w' => RdInts w (downOf g) e w' :=
  down_read (p := idomP g) (n := g.length) (f := deepOf g) rfl hlen (deepOf_spec hF) (Nat.le_trans (downOf_len hF) hlen) (idoms g) (fun b => kidL_idoms g b) (by have := idoms_length g; omega) a cap w hx

set_option maxRecDepth 100000 in
set_option maxHeartbeats 1000000 in
theorem specDomOrder_any (p r : Int) (ba : Option Addr) (bc : Nat) (g : List (List Int)) (w : World) (hg : Gr w ba g) :
    Calls Try.prog 34 #[.agg #[.int .i64 p, .int .i64 r, .slice ba g.length bc]] w fun e w' => RdInts w (downP g) e w' := by
  have hb0 := below_box w (.int .i64 p) (.int .i64 r) (.slice ba g.length bc)
  have HC := Lib.hid (heap_alloc_new w (.cells #[.int .i64 p, .int .i64 r, .slice ba g.length bc] 29))
  have hlen := hg.len
  go_enter Try.func34, Try.ntmps34
  go_wp2_with fail
  refine (l10Fits_any p r ba bc g _ (hg.later hb0)).mono ?_
  rintro e w1 ⟨rfl, hb1⟩
  have hb01 := hb0.trans (hb1.mono hb0.size)
  have hC1 := (hb1.block w.heap.size (by simp)).trans HC.out
  have hk0 : w1.cell? ⟨w.heap.size, 0, none⟩ = some (.int .i64 p) := cell_of_row _ _ 0 _ _ _ hC1
  have hk1 : w1.cell? ⟨w.heap.size, 1, none⟩ = some (.int .i64 r) := cell_of_row _ _ 1 _ _ _ hC1
  have hk2 : w1.cell? ⟨w.heap.size, 2, none⟩ = some (.slice ba g.length bc) := cell_of_row _ _ 2 _ _ _ hC1
  clear hC1
  cases hf : fits g with
  | false =>
    have HP := Lib.hid (show downP g = [] by rw [downP, hf]; rfl)
    clear hf
    have hs := hb01.size
    go_wp2
    go_ret
    rw [HP.out]
    exact rdInts_of_ret ⟨_, _, rfl, own_empty w1 w.heap.size 3 1 hs, hb01.alloc hs _⟩
  | true =>
    have HP := Lib.hid (show downP g = downOf g by rw [downP, hf]; rfl)
    have hF := fits_iff.1 hf
    have HI := Lib.hid (show idomsP g = idoms g by rw [idomsP, hf]; rfl)
    clear hf
    go_wp2_with fail
    refine (specIdomsOf_any p r ba bc g w1 (hg.later hb01)).mono ?_
    rintro e w2 ⟨a2, c2, rfl, hown2, hb2⟩
    rw [HI.out] at hown2 ⊢
    have hb02 := hb01.trans (hb2.mono hb01.size)
    have HO := Lib.hid (ints_of_own hown2).toIntsRd
    clear hown2
    go_wp2_with fail
    refine (l11Down_start g hF hlen a2 c2 w2 HO.out).mono ?_
    rintro e w3 ⟨a3, c3, rfl, hr3, hb3⟩
    have HO3 := Lib.hid (And.intro hr3 hb3)
    clear hr3 hb3
    go_wp2
    go_ret
    rw [HP.out]
    exact ⟨_, _, rfl, HO3.out.1, hb02.trans (HO3.out.2.mono hb02.size)⟩

set_option maxRecDepth 100000 in
set_option maxHeartbeats 1000000 in
theorem implDomOrder_any (p r : Int) (ba : Option Addr) (bc : Nat) (g : List (List Int)) (w : World) (hg : Gr w ba g) :
    Calls Try.prog 35 #[.agg #[.int .i64 p, .int .i64 r, .slice ba g.length bc]] w fun e w' => RetInts w (downP g) (downP g).length e w' := by
  have hb0 := below_box w (.int .i64 p) (.int .i64 r) (.slice ba g.length bc)
  have hlen := hg.len
  go_enter Try.func35, Try.ntmps35
  go_wp2_with fail
  refine (domsOf_any g p r ba bc _ (hg.later hb0)).mono ?_
  rintro e w1 ⟨hb1, hcase⟩
  have hb01 := hb0.trans (hb1.mono hb0.size)
  rcases hcase with ⟨hf, rfl⟩ | ⟨hf, db, oa, oc, sb, rfl, hD⟩
  · have HP := Lib.hid (show downP g = [] by rw [downP, hf]; rfl)
    clear hf
    go_wp2
    go_ret
    rw [HP.out]
    exact ⟨none, 0, rfl, World.ownsRow_nil _ _ _ _, hb01⟩
  · have HP := Lib.hid (show downP g = downOf g by rw [downP, fits_iff.2 hf]; rfl)
    go_wp2_with fail
    refine (order_any p r ba bc g hf db oa oc sb w1 hD hlen).mono ?_
    rintro e w2 ⟨a3, c3, rfl, hown3, hb3⟩
    have HO3 := Lib.hid (And.intro hown3 hb3)
    clear hown3 hb3
    have hs := hb01.size
    go_wp2
    go_ret
    rw [HP.out]
    exact ⟨_, _, rfl, own_lower HO3.out.1 (fun k hk => by have := (HO3.out.1.lt k hk).1; omega), hb01.trans (HO3.out.2.mono hb01.size)⟩

end Go.Proofs.Ytclihjgojmfjiaa
